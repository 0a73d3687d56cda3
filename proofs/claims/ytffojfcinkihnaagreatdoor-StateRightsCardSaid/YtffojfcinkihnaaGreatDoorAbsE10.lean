/- What the code comes to, function by function (printed by gen.py). -/
import Derived.Test.YtffojfcinkihnaaGreatDoorAbsT
set_option linter.unusedVariables false
set_option linter.unusedSimpArgs false
set_option linter.unusedSectionVars false
set_option linter.deprecated false
set_option linter.unnecessarySimpa false
namespace Go.Proofs.YtffojfcinkihnaaGreatDoor.Abs
set_option linter.unusedVariables false
set_option maxRecDepth 100000

/-! treillage/treillageref08.bools: function 159 -/
noncomputable def d159 : FD := ⟨(Tryz.f159.body).getD .skip, Tryz.f159.results.toList, 9⟩
theorem run159 (l : List AV) : ωκ S 159 l = runM τ (fun _ => none) (ωκ S) [4] lpκ d159.code (look (argEnv 0 l)) (retV τ d159.rs) :=
  ωκ_run S 159 l d159 rfl (by show (Tryz.prog.funcs[159]?).bind toFD = _; rw [Tryz.func159]; rfl)
theorem ref08_bools.f_eq (b1 : Bool) (b2 : Bool) : ref08_bools (AV.bool b1) (AV.bool b2) = (ifB (b1 == b2) (some (AV.int .i64 0)) (ifB b2 (some (AV.int .i64 (-1))) (some (AV.int .i64 1)))) :=
  (run159 _).trans (by kernel_rfl)

/-! treillage/lat.anything: function 160 -/
noncomputable def d160 : FD := ⟨(Tryz.f160.body).getD .skip, Tryz.f160.results.toList, 7⟩
theorem run160 (l : List AV) : ωκ S 160 l = runM τ (fun _ => none) (ωκ S) [2] lpκ d160.code (look (argEnv 0 l)) (retV τ d160.rs) :=
  ωκ_run S 160 l d160 rfl (by show (Tryz.prog.funcs[160]?).bind toFD = _; rw [Tryz.func160]; rfl)
theorem lat_anything.f_eq (c1 : List AV) : lat_anything (AV.agg 8 c1) = ((rank_Terms (AV.agg 8 c1) (AV.agg 8 [AV.int .i64 5, AV.int .i64 0, AV.int .i64 0, AV.str [], AV.bool false, AV.bool false, AV.bool false, AV.sl 2 []])).bind fun r2 => asI .i64 r2 fun n3 => some (AV.bool (decide ((n3 : Int) = 0)))) :=
  (run160 _).trans (by kernel_rfl)

/-! treillage/lat.bare: function 161 -/
noncomputable def d161 : FD := ⟨(Tryz.f161.body).getD .skip, Tryz.f161.results.toList, 26⟩
theorem run161 (l : List AV) : ωκ S 161 l = runM τ (fun _ => none) (ωκ S) [2] lpκ d161.code (look (argEnv 0 l)) (retV τ d161.rs) :=
  ωκ_run S 161 l d161 rfl (by show (Tryz.prog.funcs[161]?).bind toFD = _; rw [Tryz.func161]; rfl)
theorem lat_bare.f_eq (c1 : List AV) : lat_bare (AV.agg 8 c1) = (getC c1 1 fun a2 => asI .i64 a2 fun n3 => (ifB (decide ((n3 : Int) = 0)) (getC c1 2 fun a5 => asI .i64 a5 fun n6 => some (decide ((n6 : Int) = 0))) (some false) : Option Bool).bind fun b4 => (ifB b4 (getC c1 3 fun a8 => asS a8 fun s9 => some (decide ((s9 : List UInt8) = []))) (some false) : Option Bool).bind fun b7 => (ifB b7 (getC c1 4 fun a11 => asB a11 fun b12 => some (!b12)) (some false) : Option Bool).bind fun b10 => (ifB b10 (getC c1 5 fun a14 => asB a14 fun b15 => some (!b15)) (some false) : Option Bool).bind fun b13 => some (AV.bool b13)) :=
  (run161 _).trans (by kernel_rfl)

/-! treillage/lat.rising: function 162 -/
noncomputable def d162 : FD := ⟨(Tryz.f162.body).getD .skip, Tryz.f162.results.toList, 32⟩
theorem run162 (l : List AV) : ωκ S 162 l = runM τ ann162 (ωκ S) [2] lpκ d162.code (look (argEnv 0 l)) (retV τ d162.rs) :=
  ωκ_run S 162 l d162 rfl (by show (Tryz.prog.funcs[162]?).bind toFD = _; rw [Tryz.func162]; rfl)
noncomputable def lat_rising.l0 (a0 a5 a6 a7 : AV) : Option AV := loopAt S 162 d162 [1, 0, 1, 0] (look [(0, a0), (5, a5), (6, a6), (7, a7)])
theorem lat_rising.f_eq (l1 : List (List AV)) : lat_rising (AV.sl 2 l1) = (lat_rising.l0 (AV.sl 2 l1) (AV.sl 2 l1) (AV.int .i64 (List.length l1 : Int)) (AV.int .i64 0)) :=
  (run162 _).trans (by kernel_rfl)
theorem lat_rising.l0_eq (l1 : List (List AV)) (l2 : List (List AV)) (n3 : Int) (n4 : Int) : lat_rising.l0 (AV.sl 2 l1) (AV.sl 2 l2) (AV.int .i64 n3) (AV.int .i64 n4) = (ifB (decide ((n4 : Int) < n3)) (idx l2 n4 fun c5 => getC c5 0 fun a6 => asS a6 fun s7 => (name_Right (AV.str s7)).bind fun r8 => asB r8 fun b9 => (ifB (!b9) (some true) ((ifB (decide ((0 : Int) < n4)) (getC c5 0 fun a12 => asS a12 fun s13 => idx l1 (w64 (n4 - 1)) fun c14 => getC c14 0 fun a15 => asS a15 fun s16 => some (bytesLt s13 s16 || decide ((s13 : List UInt8) = s16))) (some false) : Option Bool).bind fun b11 => some b11) : Option Bool).bind fun b10 => ifB b10 (some (AV.bool false)) (lat_rising.l0 (AV.sl 2 l1) (AV.sl 2 l2) (AV.int .i64 n3) (AV.int .i64 (w64 (n4 + 1))))) (some (AV.bool true))) :=
  (loopAt_eq S 162 d162 [1, 0, 1, 0] _).trans (by kernel_rfl)

/-! slices.SortFunc[[]treillage/api.Term,treillage/api.Term]: function 163 -/
noncomputable def d163 : FD := ⟨(Tryz.f163.body).getD .skip, Tryz.f163.results.toList, 14⟩
theorem run163 (l : List AV) : ωκ S 163 l = runM τ (fun _ => none) (ωκ S) [] lpκ d163.code (look (argEnv 0 l)) (retV τ d163.rs) :=
  ωκ_run S 163 l d163 rfl (by show (Tryz.prog.funcs[163]?).bind toFD = _; rw [Tryz.func163]; rfl)
theorem slices_SortFunc__Term.f_eq (l1 : List (List AV)) (f2 : Nat) (c3 : List AV) : slices_SortFunc__Term (AV.sl 8 l1) (AV.fn f2 c3) = ((math_bits_Len (AV.int .u64 (IntKind.wrap .u64 ((List.length l1 : Int))))).bind fun r4 => asI .i64 r4 fun n5 => (slices_pdqsortCmpFunc__Term (AV.sl 8 l1) (AV.int .i64 0) (AV.int .i64 (List.length l1 : Int)) (AV.int .i64 n5) (AV.fn f2 c3)).bind fun r6 => asT0 r6 (some (.tup []))) :=
  (run163 _).trans (by kernel_rfl)

/-! treillage/lat.settle$1: function 165 -/
noncomputable def d165 : FD := ⟨(Tryz.f165.body).getD .skip, Tryz.f165.results.toList, 9⟩
theorem run165 (l : List AV) : ωκ S 165 l = runM τ (fun _ => none) (ωκ S) [4] lpκ d165.code (look (argEnv 0 l)) (retV τ d165.rs) :=
  ωκ_run S 165 l d165 rfl (by show (Tryz.prog.funcs[165]?).bind toFD = _; rw [Tryz.func165]; rfl)
theorem lat_settle_1.f_eq (c1 : List AV) (c2 : List AV) : lat_settle_1 (AV.agg 8 c1) (AV.agg 8 c2) = ((rank_Terms (AV.agg 8 c1) (AV.agg 8 c2)).bind fun r3 => asI .i64 r3 fun n4 => some (AV.bool (decide ((n4 : Int) = 0)))) :=
  (run165 _).trans (by kernel_rfl)

/-! slices.IndexFunc[[]treillage/api.Field,treillage/api.Field]: function 166 -/
noncomputable def d166 : FD := ⟨(Tryz.f166.body).getD .skip, Tryz.f166.results.toList, 19⟩
theorem run166 (l : List AV) : ωκ S 166 l = runM τ ann166 (ωκ S) [4] lpκ d166.code (look (argEnv 0 l)) (retV τ d166.rs) :=
  ωκ_run S 166 l d166 rfl (by show (Tryz.prog.funcs[166]?).bind toFD = _; rw [Tryz.func166]; rfl)
noncomputable def slices_IndexFunc__Field.l0 (a0 a1 a7 a8 : AV) : Option AV := loopAt S 166 d166 [1, 0, 1, 0] (look [(0, a0), (1, a1), (7, a7), (8, a8)])
theorem slices_IndexFunc__Field.f_eq (l1 : List (List AV)) (f2 : Nat) (c3 : List AV) : slices_IndexFunc__Field (AV.sl 2 l1) (AV.fn f2 c3) = (slices_IndexFunc__Field.l0 (AV.sl 2 l1) (AV.fn f2 c3) (AV.int .i64 (List.length l1 : Int)) (AV.int .i64 0)) :=
  (run166 _).trans (by kernel_rfl)
theorem slices_IndexFunc__Field.l0_eq (l1 : List (List AV)) (f2 : Nat) (c3 : List AV) (n4 : Int) (n5 : Int) : slices_IndexFunc__Field.l0 (AV.sl 2 l1) (AV.fn f2 c3) (AV.int .i64 n4) (AV.int .i64 n5) = (ifB (decide ((n5 : Int) < n4)) (idx l1 n5 fun c6 => (ωκ S f2 ([AV.agg 2 c6] ++ c3)).bind fun r7 => asB r7 fun b8 => ifB b8 (some (AV.int .i64 n5)) (slices_IndexFunc__Field.l0 (AV.sl 2 l1) (AV.fn f2 c3) (AV.int .i64 n4) (AV.int .i64 (w64 (n5 + 1))))) (some (AV.int .i64 (-1)))) :=
  (loopAt_eq S 166 d166 [1, 0, 1, 0] _).trans (by kernel_rfl)

/-! treillage/scalar.bare: function 167 -/
noncomputable def d167 : FD := ⟨(Tryz.f167.body).getD .skip, Tryz.f167.results.toList, 12⟩
theorem run167 (l : List AV) : ωκ S 167 l = runM τ (fun _ => none) (ωκ S) [2] lpκ d167.code (look (argEnv 0 l)) (retV τ d167.rs) :=
  ωκ_run S 167 l d167 rfl (by show (Tryz.prog.funcs[167]?).bind toFD = _; rw [Tryz.func167]; rfl)
theorem scalar_bare.f_eq (c1 : List AV) : scalar_bare (AV.agg 8 c1) = (getC c1 6 fun a2 => asB a2 fun b3 => (ifB (!b3) (getC c1 7 fun a5 => asL 2 a5 fun l6 => some (decide (((List.length l6 : Int) : Int) = 0))) (some false) : Option Bool).bind fun b4 => some (AV.bool b4)) :=
  (run167 _).trans (by kernel_rfl)

/-! cmp.isNaN[string]: function 168 -/
noncomputable def d168 : FD := ⟨(Tryz.f168.body).getD .skip, Tryz.f168.results.toList, 6⟩
theorem run168 (l : List AV) : ωκ S 168 l = runM τ (fun _ => none) (ωκ S) [2] lpκ d168.code (look (argEnv 0 l)) (retV τ d168.rs) :=
  ωκ_run S 168 l d168 rfl (by show (Tryz.prog.funcs[168]?).bind toFD = _; rw [Tryz.func168]; rfl)
theorem cmp_isNaN__string.f_eq (s1 : List UInt8) : cmp_isNaN__string (AV.str s1) = (some (AV.bool (!decide ((s1 : List UInt8) = s1)))) :=
  (run168 _).trans (by kernel_rfl)

/-! slices.rotateLeft[string]: function 169 -/
noncomputable def d169 : FD := ⟨(Tryz.f169.body).getD .skip, Tryz.f169.results.toList, 14⟩
theorem run169 (l : List AV) : ωκ S 169 l = runM τ (fun _ => none) (ωκ S) [] lpκ d169.code (look (argEnv 0 l)) (retV τ d169.rs) :=
  ωκ_run S 169 l d169 rfl (by show (Tryz.prog.funcs[169]?).bind toFD = _; rw [Tryz.func169]; rfl)
theorem slices_rotateLeft__string.f_eq (l1 : List (List AV)) (n2 : Int) : slices_rotateLeft__string (AV.sl 1 l1) (AV.int .i64 n2) = (cutTo l1 n2 fun l3 => (slices_Reverse__string (AV.sl 1 l3)).bind fun r4 => asT0 r4 (cutFrom l1 n2 fun l5 => (slices_Reverse__string (AV.sl 1 l5)).bind fun r6 => asT0 r6 ((slices_Reverse__string (AV.sl 1 l1)).bind fun r7 => asT0 r7 (some (.tup []))))) :=
  (run169 _).trans (by kernel_rfl)

/-! maps.Keys[map[string][]string,string,[]string]$1: function 170 -/
noncomputable def d170 : FD := ⟨(Tryz.f170.body).getD .skip, Tryz.f170.results.toList, 14⟩
theorem run170 (l : List AV) : ωκ S 170 l = runM τ ann170 (ωκ S) [] lpκ d170.code (look (argEnv 0 l)) (retV τ d170.rs) :=
  ωκ_run S 170 l d170 rfl (by show (Tryz.prog.funcs[170]?).bind toFD = _; rw [Tryz.func170]; rfl)

/-! slices.pdqsortOrdered[string]: function 172 -/
noncomputable def d172 : FD := ⟨(Tryz.f172.body).getD .skip, Tryz.f172.results.toList, 134⟩
theorem run172 (l : List AV) : ωκ S 172 l = runM τ ann172 (ωκ S) [] lpκ d172.code (look (argEnv 0 l)) (retV τ d172.rs) :=
  ωκ_run S 172 l d172 rfl (by show (Tryz.prog.funcs[172]?).bind toFD = _; rw [Tryz.func172]; rfl)
noncomputable def slices_pdqsortOrdered__string.l0 (a0 a1 a2 a3 a8 a9 : AV) : Option AV := loopAt S 172 d172 [1, 1, 0] (look [(0, a0), (1, a1), (2, a2), (3, a3), (8, a8), (9, a9)])
noncomputable def slices_pdqsortOrdered__string.j1 (a0 a1 a2 a3 a8 a9 a10 : AV) : Option AV := joinAt S 172 d172 [1, 1, 0, 0, 0, 1, 1, 1] (look [(0, a0), (1, a1), (2, a2), (3, a3), (8, a8), (9, a9), (10, a10)])
noncomputable def slices_pdqsortOrdered__string.j2 (a0 a1 a2 a3 a8 a9 a10 a11 a12 : AV) : Option AV := joinAt S 172 d172 [1, 1, 0, 0, 0, 1, 1, 1, 1, 1] (look [(0, a0), (1, a1), (2, a2), (3, a3), (8, a8), (9, a9), (10, a10), (11, a11), (12, a12)])
noncomputable def slices_pdqsortOrdered__string.j3 (a0 a1 a2 a3 a8 a9 a10 a11 : AV) : Option AV := joinAt S 172 d172 [1, 1, 0, 0, 0, 1, 1, 1, 1, 1, 1] (look [(0, a0), (1, a1), (2, a2), (3, a3), (8, a8), (9, a9), (10, a10), (11, a11)])
theorem slices_pdqsortOrdered__string.f_eq (l1 : List (List AV)) (n2 : Int) (n3 : Int) (n4 : Int) : slices_pdqsortOrdered__string (AV.sl 1 l1) (AV.int .i64 n2) (AV.int .i64 n3) (AV.int .i64 n4) = (slices_pdqsortOrdered__string.l0 (AV.sl 1 l1) (AV.int .i64 n2) (AV.int .i64 n3) (AV.int .i64 n4) (AV.bool true) (AV.bool true)) :=
  (run172 _).trans (by kernel_rfl)
theorem slices_pdqsortOrdered__string.l0_eq (l1 : List (List AV)) (n2 : Int) (n3 : Int) (n4 : Int) : slices_pdqsortOrdered__string.l0 (AV.sl 1 l1) (AV.int .i64 n2) (AV.int .i64 n3) (AV.int .i64 n4) (AV.bool true) (AV.bool true) = (ifB (decide ((w64 (n3 - n2) : Int) ≤ 12)) ((slices_insertionSortOrdered__string (AV.sl 1 l1) (AV.int .i64 n2) (AV.int .i64 n3)).bind fun r5 => asT0 r5 (some (.tup []))) (ifB (decide ((n4 : Int) = 0)) ((slices_heapSortOrdered__string (AV.sl 1 l1) (AV.int .i64 n2) (AV.int .i64 n3)).bind fun r6 => asT0 r6 (some (.tup []))) (slices_pdqsortOrdered__string.j1 (AV.sl 1 l1) (AV.int .i64 n2) (AV.int .i64 n3) (AV.int .i64 n4) (AV.bool true) (AV.bool true) (AV.int .i64 (w64 (n3 - n2)))))) :=
  (loopAt_eq S 172 d172 [1, 1, 0] _).trans (by kernel_rfl)
theorem slices_pdqsortOrdered__string.j1_eq (l1 : List (List AV)) (n2 : Int) (n3 : Int) (n4 : Int) (n5 : Int) : slices_pdqsortOrdered__string.j1 (AV.sl 1 l1) (AV.int .i64 n2) (AV.int .i64 n3) (AV.int .i64 n4) (AV.bool true) (AV.bool true) (AV.int .i64 n5) = ((slices_choosePivotOrdered__string (AV.sl 1 l1) (AV.int .i64 n2) (AV.int .i64 n3)).bind fun r6 => asT2 r6 fun a7 a8 => asI .i64 a7 fun n9 => asI .i64 a8 fun n10 => ifB (decide ((n10 : Int) = 2)) ((slices_reverseRangeOrdered__string (AV.sl 1 l1) (AV.int .i64 n2) (AV.int .i64 n3)).bind fun r11 => asT0 r11 (slices_pdqsortOrdered__string.j2 (AV.sl 1 l1) (AV.int .i64 n2) (AV.int .i64 n3) (AV.int .i64 n4) (AV.bool true) (AV.bool true) (AV.int .i64 n5) (AV.int .i64 (w64 ((w64 (n3 - 1)) - (w64 (n9 - n2))))) (AV.int .i64 1))) (slices_pdqsortOrdered__string.j2 (AV.sl 1 l1) (AV.int .i64 n2) (AV.int .i64 n3) (AV.int .i64 n4) (AV.bool true) (AV.bool true) (AV.int .i64 n5) (AV.int .i64 n9) (AV.int .i64 n10))) :=
  (joinAt_eq S 172 d172 [1, 1, 0, 0, 0, 1, 1, 1] _).trans (by kernel_rfl)
theorem slices_pdqsortOrdered__string.j2_eq (l1 : List (List AV)) (n2 : Int) (n3 : Int) (n4 : Int) (n5 : Int) (n6 : Int) (n7 : Int) : slices_pdqsortOrdered__string.j2 (AV.sl 1 l1) (AV.int .i64 n2) (AV.int .i64 n3) (AV.int .i64 n4) (AV.bool true) (AV.bool true) (AV.int .i64 n5) (AV.int .i64 n6) (AV.int .i64 n7) = (ifB (decide ((n7 : Int) = 1)) ((slices_partialInsertionSortOrdered__string (AV.sl 1 l1) (AV.int .i64 n2) (AV.int .i64 n3)).bind fun r10 => asB r10 fun b11 => ifB b11 (some (.tup [])) (slices_pdqsortOrdered__string.j3 (AV.sl 1 l1) (AV.int .i64 n2) (AV.int .i64 n3) (AV.int .i64 n4) (AV.bool true) (AV.bool true) (AV.int .i64 n5) (AV.int .i64 n6))) (slices_pdqsortOrdered__string.j3 (AV.sl 1 l1) (AV.int .i64 n2) (AV.int .i64 n3) (AV.int .i64 n4) (AV.bool true) (AV.bool true) (AV.int .i64 n5) (AV.int .i64 n6))) :=
  (joinAt_eq S 172 d172 [1, 1, 0, 0, 0, 1, 1, 1, 1, 1] _).trans (by kernel_rfl)
theorem slices_pdqsortOrdered__string.j3_eq (l1 : List (List AV)) (n2 : Int) (n3 : Int) (n4 : Int) (n5 : Int) (n6 : Int) : slices_pdqsortOrdered__string.j3 (AV.sl 1 l1) (AV.int .i64 n2) (AV.int .i64 n3) (AV.int .i64 n4) (AV.bool true) (AV.bool true) (AV.int .i64 n5) (AV.int .i64 n6) = ((ifB (decide ((0 : Int) < n2)) (idx l1 (w64 (n2 - 1)) fun c8 => getC c8 0 fun a9 => asS a9 fun s10 => idx l1 n6 fun c11 => getC c11 0 fun a12 => asS a12 fun s13 => (cmp_Less__string (AV.str s10) (AV.str s13)).bind fun r14 => asB r14 fun b15 => some (!b15)) (some false) : Option Bool).bind fun b7 => ifB b7 ((slices_partitionEqualOrdered__string (AV.sl 1 l1) (AV.int .i64 n2) (AV.int .i64 n3) (AV.int .i64 n6)).bind fun r16 => asI .i64 r16 fun n17 => slices_pdqsortOrdered__string.l0 (AV.sl 1 l1) (AV.int .i64 n17) (AV.int .i64 n3) (AV.int .i64 n4) (AV.bool true) (AV.bool true)) ((slices_partitionOrdered__string (AV.sl 1 l1) (AV.int .i64 n2) (AV.int .i64 n3) (AV.int .i64 n6)).bind fun r18 => asT2 r18 fun a19 a20 => asI .i64 a19 fun n21 => asB a20 fun b22 => ifB (decide ((w64 (n21 - n2) : Int) < (w64 (n3 - n21)))) ((slices_pdqsortOrdered__string (AV.sl 1 l1) (AV.int .i64 n2) (AV.int .i64 n21) (AV.int .i64 n4)).bind fun r23 => asT0 r23 (slices_pdqsortOrdered__string.l0 (AV.sl 1 l1) (AV.int .i64 (w64 (n21 + 1))) (AV.int .i64 n3) (AV.int .i64 n4) (AV.bool (decide ((w64 (Int.tdiv n5 8) : Int) ≤ (w64 (n21 - n2))))) (AV.bool b22))) ((slices_pdqsortOrdered__string (AV.sl 1 l1) (AV.int .i64 (w64 (n21 + 1))) (AV.int .i64 n3) (AV.int .i64 n4)).bind fun r24 => asT0 r24 (slices_pdqsortOrdered__string.l0 (AV.sl 1 l1) (AV.int .i64 n2) (AV.int .i64 n21) (AV.int .i64 n4) (AV.bool (decide ((w64 (Int.tdiv n5 8) : Int) ≤ (w64 (n3 - n21))))) (AV.bool b22))))) :=
  (joinAt_eq S 172 d172 [1, 1, 0, 0, 0, 1, 1, 1, 1, 1, 1] _).trans (by kernel_rfl)
theorem slices_pdqsortOrdered__string.l0_eq2 (l1 : List (List AV)) (n2 : Int) (n3 : Int) (n4 : Int) (b5 : Bool) (b6 : Bool) : slices_pdqsortOrdered__string.l0 (AV.sl 1 l1) (AV.int .i64 n2) (AV.int .i64 n3) (AV.int .i64 n4) (AV.bool b5) (AV.bool b6) = (ifB (decide ((w64 (n3 - n2) : Int) ≤ 12)) ((slices_insertionSortOrdered__string (AV.sl 1 l1) (AV.int .i64 n2) (AV.int .i64 n3)).bind fun r7 => asT0 r7 (some (.tup []))) (ifB (decide ((n4 : Int) = 0)) ((slices_heapSortOrdered__string (AV.sl 1 l1) (AV.int .i64 n2) (AV.int .i64 n3)).bind fun r8 => asT0 r8 (some (.tup []))) (ifB (!b5) ((slices_breakPatternsOrdered__string (AV.sl 1 l1) (AV.int .i64 n2) (AV.int .i64 n3)).bind fun r9 => asT0 r9 (slices_pdqsortOrdered__string.j1 (AV.sl 1 l1) (AV.int .i64 n2) (AV.int .i64 n3) (AV.int .i64 (w64 (n4 - 1))) (AV.bool b5) (AV.bool b6) (AV.int .i64 (w64 (n3 - n2))))) (slices_pdqsortOrdered__string.j1 (AV.sl 1 l1) (AV.int .i64 n2) (AV.int .i64 n3) (AV.int .i64 n4) (AV.bool b5) (AV.bool b6) (AV.int .i64 (w64 (n3 - n2))))))) :=
  (loopAt_eq S 172 d172 [1, 1, 0] _).trans (by kernel_rfl)
theorem slices_pdqsortOrdered__string.j1_eq2 (l1 : List (List AV)) (n2 : Int) (n3 : Int) (n4 : Int) (b5 : Bool) (b6 : Bool) (n7 : Int) : slices_pdqsortOrdered__string.j1 (AV.sl 1 l1) (AV.int .i64 n2) (AV.int .i64 n3) (AV.int .i64 n4) (AV.bool b5) (AV.bool b6) (AV.int .i64 n7) = ((slices_choosePivotOrdered__string (AV.sl 1 l1) (AV.int .i64 n2) (AV.int .i64 n3)).bind fun r8 => asT2 r8 fun a9 a10 => asI .i64 a9 fun n11 => asI .i64 a10 fun n12 => ifB (decide ((n12 : Int) = 2)) ((slices_reverseRangeOrdered__string (AV.sl 1 l1) (AV.int .i64 n2) (AV.int .i64 n3)).bind fun r13 => asT0 r13 (slices_pdqsortOrdered__string.j2 (AV.sl 1 l1) (AV.int .i64 n2) (AV.int .i64 n3) (AV.int .i64 n4) (AV.bool b5) (AV.bool b6) (AV.int .i64 n7) (AV.int .i64 (w64 ((w64 (n3 - 1)) - (w64 (n11 - n2))))) (AV.int .i64 1))) (slices_pdqsortOrdered__string.j2 (AV.sl 1 l1) (AV.int .i64 n2) (AV.int .i64 n3) (AV.int .i64 n4) (AV.bool b5) (AV.bool b6) (AV.int .i64 n7) (AV.int .i64 n11) (AV.int .i64 n12))) :=
  (joinAt_eq S 172 d172 [1, 1, 0, 0, 0, 1, 1, 1] _).trans (by kernel_rfl)
theorem slices_pdqsortOrdered__string.j2_eq2 (l1 : List (List AV)) (n2 : Int) (n3 : Int) (n4 : Int) (b5 : Bool) (b6 : Bool) (n7 : Int) (n8 : Int) (n9 : Int) : slices_pdqsortOrdered__string.j2 (AV.sl 1 l1) (AV.int .i64 n2) (AV.int .i64 n3) (AV.int .i64 n4) (AV.bool b5) (AV.bool b6) (AV.int .i64 n7) (AV.int .i64 n8) (AV.int .i64 n9) = ((ifB b5 (some b6) (some false) : Option Bool).bind fun b10 => (ifB b10 (some (decide ((n9 : Int) = 1))) (some false) : Option Bool).bind fun b11 => ifB b11 ((slices_partialInsertionSortOrdered__string (AV.sl 1 l1) (AV.int .i64 n2) (AV.int .i64 n3)).bind fun r12 => asB r12 fun b13 => ifB b13 (some (.tup [])) (slices_pdqsortOrdered__string.j3 (AV.sl 1 l1) (AV.int .i64 n2) (AV.int .i64 n3) (AV.int .i64 n4) (AV.bool b5) (AV.bool b6) (AV.int .i64 n7) (AV.int .i64 n8))) (slices_pdqsortOrdered__string.j3 (AV.sl 1 l1) (AV.int .i64 n2) (AV.int .i64 n3) (AV.int .i64 n4) (AV.bool b5) (AV.bool b6) (AV.int .i64 n7) (AV.int .i64 n8))) :=
  (joinAt_eq S 172 d172 [1, 1, 0, 0, 0, 1, 1, 1, 1, 1] _).trans (by kernel_rfl)
theorem slices_pdqsortOrdered__string.j3_eq2 (l1 : List (List AV)) (n2 : Int) (n3 : Int) (n4 : Int) (b5 : Bool) (b6 : Bool) (n7 : Int) (n8 : Int) : slices_pdqsortOrdered__string.j3 (AV.sl 1 l1) (AV.int .i64 n2) (AV.int .i64 n3) (AV.int .i64 n4) (AV.bool b5) (AV.bool b6) (AV.int .i64 n7) (AV.int .i64 n8) = ((ifB (decide ((0 : Int) < n2)) (idx l1 (w64 (n2 - 1)) fun c10 => getC c10 0 fun a11 => asS a11 fun s12 => idx l1 n8 fun c13 => getC c13 0 fun a14 => asS a14 fun s15 => (cmp_Less__string (AV.str s12) (AV.str s15)).bind fun r16 => asB r16 fun b17 => some (!b17)) (some false) : Option Bool).bind fun b9 => ifB b9 ((slices_partitionEqualOrdered__string (AV.sl 1 l1) (AV.int .i64 n2) (AV.int .i64 n3) (AV.int .i64 n8)).bind fun r18 => asI .i64 r18 fun n19 => slices_pdqsortOrdered__string.l0 (AV.sl 1 l1) (AV.int .i64 n19) (AV.int .i64 n3) (AV.int .i64 n4) (AV.bool b5) (AV.bool b6)) ((slices_partitionOrdered__string (AV.sl 1 l1) (AV.int .i64 n2) (AV.int .i64 n3) (AV.int .i64 n8)).bind fun r20 => asT2 r20 fun a21 a22 => asI .i64 a21 fun n23 => asB a22 fun b24 => ifB (decide ((w64 (n23 - n2) : Int) < (w64 (n3 - n23)))) ((slices_pdqsortOrdered__string (AV.sl 1 l1) (AV.int .i64 n2) (AV.int .i64 n23) (AV.int .i64 n4)).bind fun r25 => asT0 r25 (slices_pdqsortOrdered__string.l0 (AV.sl 1 l1) (AV.int .i64 (w64 (n23 + 1))) (AV.int .i64 n3) (AV.int .i64 n4) (AV.bool (decide ((w64 (Int.tdiv n7 8) : Int) ≤ (w64 (n23 - n2))))) (AV.bool b24))) ((slices_pdqsortOrdered__string (AV.sl 1 l1) (AV.int .i64 (w64 (n23 + 1))) (AV.int .i64 n3) (AV.int .i64 n4)).bind fun r26 => asT0 r26 (slices_pdqsortOrdered__string.l0 (AV.sl 1 l1) (AV.int .i64 n2) (AV.int .i64 n23) (AV.int .i64 n4) (AV.bool (decide ((w64 (Int.tdiv n7 8) : Int) ≤ (w64 (n3 - n23))))) (AV.bool b24))))) :=
  (joinAt_eq S 172 d172 [1, 1, 0, 0, 0, 1, 1, 1, 1, 1, 1] _).trans (by kernel_rfl)
end Go.Proofs.YtffojfcinkihnaaGreatDoor.Abs
