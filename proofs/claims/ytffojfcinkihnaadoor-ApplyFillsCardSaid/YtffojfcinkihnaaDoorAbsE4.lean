/- What the code comes to, function by function (printed by gen.py). -/
import Derived.Test.YtffojfcinkihnaaDoorAbsT
set_option linter.unusedVariables false
set_option linter.unusedSimpArgs false
set_option linter.unusedSectionVars false
set_option linter.deprecated false
set_option linter.unnecessarySimpa false
namespace Go.Proofs.YtffojfcinkihnaaDoor.Abs
set_option linter.unusedVariables false
set_option maxRecDepth 100000

/-! treillage/rank.Terms: function 57 -/
noncomputable def d57 : FD := ⟨(Tryd.f57.body).getD .skip, Tryd.f57.results.toList, 53⟩
theorem run57 (l : List AV) : ωκ S 57 l = runM τ (fun _ => none) (ωκ S) [4] lpκ d57.code (look (argEnv 0 l)) (retV τ d57.rs) :=
  ωκ_run S 57 l d57 rfl (by show (Tryd.prog.funcs[57]?).bind toFD = _; rw [Tryd.func57]; rfl)
theorem rank_Terms.f_eq (c1 : List AV) (c2 : List AV) : rank_Terms (AV.agg 8 c1) (AV.agg 8 c2) = (getC c1 0 fun a3 => asI .i64 a3 fun n4 => getC c2 0 fun a5 => asI .i64 a5 fun n6 => (cmp_Compare__int (AV.int .i64 n4) (AV.int .i64 n6)).bind fun r7 => asI .i64 r7 fun n8 => getC c1 1 fun a9 => asI .i64 a9 fun n10 => getC c2 1 fun a11 => asI .i64 a11 fun n12 => (cmp_Compare__int (AV.int .i64 n10) (AV.int .i64 n12)).bind fun r13 => asI .i64 r13 fun n14 => getC c1 2 fun a15 => asI .i64 a15 fun n16 => getC c2 2 fun a17 => asI .i64 a17 fun n18 => (cmp_Compare__int (AV.int .i64 n16) (AV.int .i64 n18)).bind fun r19 => asI .i64 r19 fun n20 => getC c1 3 fun a21 => asS a21 fun s22 => getC c2 3 fun a23 => asS a23 fun s24 => (strings_Compare (AV.str s22) (AV.str s24)).bind fun r25 => asI .i64 r25 fun n26 => getC c1 4 fun a27 => asB a27 fun b28 => (rank_flag (AV.bool b28)).bind fun r29 => asI .i64 r29 fun n30 => getC c2 4 fun a31 => asB a31 fun b32 => (rank_flag (AV.bool b32)).bind fun r33 => asI .i64 r33 fun n34 => getC c1 5 fun a35 => asB a35 fun b36 => (rank_flag (AV.bool b36)).bind fun r37 => asI .i64 r37 fun n38 => getC c2 5 fun a39 => asB a39 fun b40 => (rank_flag (AV.bool b40)).bind fun r41 => asI .i64 r41 fun n42 => getC c1 6 fun a43 => asB a43 fun b44 => (rank_flag (AV.bool b44)).bind fun r45 => asI .i64 r45 fun n46 => getC c2 6 fun a47 => asB a47 fun b48 => (rank_flag (AV.bool b48)).bind fun r49 => asI .i64 r49 fun n50 => getC c1 7 fun a51 => asL 2 a51 fun l52 => getC c2 7 fun a53 => asL 2 a53 fun l54 => (rank_lists__Field (AV.sl 2 l52) (AV.sl 2 l54) (AV.fn 73 [])).bind fun r55 => asI .i64 r55 fun n56 => (rank_first (AV.sl 1 ([[AV.int .i64 n8], [AV.int .i64 n14], [AV.int .i64 n20], [AV.int .i64 n26], [AV.int .i64 (w64 (n30 - n34))], [AV.int .i64 (w64 (n38 - n42))], [AV.int .i64 (w64 (n46 - n50))], [AV.int .i64 n56]]))).bind fun r57 => asI .i64 r57 fun n58 => some (AV.int .i64 n58)) :=
  (run57 _).trans (by kernel_rfl)

/-! treillage/lat.below: function 58 -/
noncomputable def d58 : FD := ⟨(Tryd.f58.body).getD .skip, Tryd.f58.results.toList, 66⟩
theorem run58 (l : List AV) : ωκ S 58 l = runM τ ann58 (ωκ S) [4] lpκ d58.code (look (argEnv 0 l)) (retV τ d58.rs) :=
  ωκ_run S 58 l d58 rfl (by show (Tryd.prog.funcs[58]?).bind toFD = _; rw [Tryd.func58]; rfl)
noncomputable def lat_below.l0 (a2 a40 a41 a42 : AV) : Option AV := loopAt S 58 d58 [1, 1, 0, 1, 0] (look [(2, a2), (40, a40), (41, a41), (42, a42)])
theorem lat_below.f_eq (c1 : List AV) (c2 : List AV) : lat_below (AV.agg 8 c1) (AV.agg 8 c2) = (getC c2 0 fun a3 => asI .i64 a3 fun n4 => ifB (decide ((n4 : Int) = 5)) (some (AV.bool true)) (getC c1 0 fun a5 => asI .i64 a5 fun n6 => getC c2 0 fun a7 => asI .i64 a7 fun n8 => (ifB (!decide ((n6 : Int) = n8)) (some true) (getC c1 0 fun a10 => asI .i64 a10 fun n11 => some (!decide ((n11 : Int) = 4))) : Option Bool).bind fun b9 => ifB b9 ((scalar_Below (AV.agg 8 c1) (AV.agg 8 c2)).bind fun r12 => asB r12 fun b13 => some (AV.bool b13)) (getC c1 6 fun a14 => asB a14 fun b15 => (ifB b15 (getC c2 6 fun a17 => asB a17 fun b18 => some (!b18)) (some false) : Option Bool).bind fun b16 => (ifB b16 (some true) ((lat_lacks (AV.agg 8 c2) (AV.agg 8 c1)).bind fun r20 => asB r20 fun b21 => some b21) : Option Bool).bind fun b19 => ifB b19 (some (AV.bool false)) (getC c2 7 fun a22 => asL 2 a22 fun l23 => lat_below.l0 (AV.boxv 8 c1 []) (AV.sl 2 l23) (AV.int .i64 (List.length l23 : Int)) (AV.int .i64 0))))) :=
  (run58 _).trans (by kernel_rfl)
theorem lat_below.l0_eq (c1 : List AV) (l2 : List (List AV)) (n3 : Int) (n4 : Int) : lat_below.l0 (AV.boxv 8 c1 []) (AV.sl 2 l2) (AV.int .i64 n3) (AV.int .i64 n4) = (ifB (decide ((n4 : Int) < n3)) (idx l2 n4 fun c5 => getC c1 7 fun a6 => asL 2 a6 fun l7 => getC c5 0 fun a8 => asS a8 fun s9 => (lat_find (AV.sl 2 l7) (AV.str s9)).bind fun r10 => asI .i64 r10 fun n11 => (ifB (decide ((n11 : Int) < 0)) (some true) (getC c1 7 fun a13 => asL 2 a13 fun l14 => idx l14 n11 fun c15 => getC c15 1 fun a16 => getC c5 1 fun a17 => (lat_under (AV.agg 1 [a16]) (AV.agg 1 [(frz a17)])).bind fun r18 => asB r18 fun b19 => some (!b19)) : Option Bool).bind fun b12 => ifB b12 (some (AV.bool false)) (lat_below.l0 (AV.boxv 8 c1 []) (AV.sl 2 l2) (AV.int .i64 n3) (AV.int .i64 (w64 (n4 + 1))))) (some (AV.bool true))) :=
  (loopAt_eq S 58 d58 [1, 1, 0, 1, 0] _).trans (by kernel_rfl)

/-! slices.IndexFunc[[]treillage/api.Field,treillage/api.Field]: function 59 -/
noncomputable def d59 : FD := ⟨(Tryd.f59.body).getD .skip, Tryd.f59.results.toList, 19⟩
theorem run59 (l : List AV) : ωκ S 59 l = runM τ ann59 (ωκ S) [4] lpκ d59.code (look (argEnv 0 l)) (retV τ d59.rs) :=
  ωκ_run S 59 l d59 rfl (by show (Tryd.prog.funcs[59]?).bind toFD = _; rw [Tryd.func59]; rfl)
noncomputable def slices_IndexFunc__Field.l0 (a0 a1 a7 a8 : AV) : Option AV := loopAt S 59 d59 [1, 0, 1, 0] (look [(0, a0), (1, a1), (7, a7), (8, a8)])
theorem slices_IndexFunc__Field.f_eq (l1 : List (List AV)) (f2 : Nat) (c3 : List AV) : slices_IndexFunc__Field (AV.sl 2 l1) (AV.fn f2 c3) = (slices_IndexFunc__Field.l0 (AV.sl 2 l1) (AV.fn f2 c3) (AV.int .i64 (List.length l1 : Int)) (AV.int .i64 0)) :=
  (run59 _).trans (by kernel_rfl)
theorem slices_IndexFunc__Field.l0_eq (l1 : List (List AV)) (f2 : Nat) (c3 : List AV) (n4 : Int) (n5 : Int) : slices_IndexFunc__Field.l0 (AV.sl 2 l1) (AV.fn f2 c3) (AV.int .i64 n4) (AV.int .i64 n5) = (ifB (decide ((n5 : Int) < n4)) (idx l1 n5 fun c6 => (ωκ S f2 ([AV.agg 2 c6] ++ c3)).bind fun r7 => asB r7 fun b8 => ifB b8 (some (AV.int .i64 n5)) (slices_IndexFunc__Field.l0 (AV.sl 2 l1) (AV.fn f2 c3) (AV.int .i64 n4) (AV.int .i64 (w64 (n5 + 1))))) (some (AV.int .i64 (-1)))) :=
  (loopAt_eq S 59 d59 [1, 0, 1, 0] _).trans (by kernel_rfl)

/-! treillage/scalar.bare: function 60 -/
noncomputable def d60 : FD := ⟨(Tryd.f60.body).getD .skip, Tryd.f60.results.toList, 12⟩
theorem run60 (l : List AV) : ωκ S 60 l = runM τ (fun _ => none) (ωκ S) [2] lpκ d60.code (look (argEnv 0 l)) (retV τ d60.rs) :=
  ωκ_run S 60 l d60 rfl (by show (Tryd.prog.funcs[60]?).bind toFD = _; rw [Tryd.func60]; rfl)
theorem scalar_bare.f_eq (c1 : List AV) : scalar_bare (AV.agg 8 c1) = (getC c1 6 fun a2 => asB a2 fun b3 => (ifB (!b3) (getC c1 7 fun a5 => asL 2 a5 fun l6 => some (decide (((List.length l6 : Int) : Int) = 0))) (some false) : Option Bool).bind fun b4 => some (AV.bool b4)) :=
  (run60 _).trans (by kernel_rfl)

/-! treillage/treillageref08.bools: function 61 -/
noncomputable def d61 : FD := ⟨(Tryd.f61.body).getD .skip, Tryd.f61.results.toList, 9⟩
theorem run61 (l : List AV) : ωκ S 61 l = runM τ (fun _ => none) (ωκ S) [4] lpκ d61.code (look (argEnv 0 l)) (retV τ d61.rs) :=
  ωκ_run S 61 l d61 rfl (by show (Tryd.prog.funcs[61]?).bind toFD = _; rw [Tryd.func61]; rfl)
theorem ref08_bools.f_eq (b1 : Bool) (b2 : Bool) : ref08_bools (AV.bool b1) (AV.bool b2) = (ifB (b1 == b2) (some (AV.int .i64 0)) (ifB b2 (some (AV.int .i64 (-1))) (some (AV.int .i64 1)))) :=
  (run61 _).trans (by kernel_rfl)

/-! treillage/treillageref02.Rising: function 62 -/
noncomputable def d62 : FD := ⟨(Tryd.f62.body).getD .skip, Tryd.f62.results.toList, 32⟩
theorem run62 (l : List AV) : ωκ S 62 l = runM τ ann62 (ωκ S) [2] lpκ d62.code (look (argEnv 0 l)) (retV τ d62.rs) :=
  ωκ_run S 62 l d62 rfl (by show (Tryd.prog.funcs[62]?).bind toFD = _; rw [Tryd.func62]; rfl)
noncomputable def ref02_Rising.l0 (a0 a3 : AV) : Option AV := loopAt S 62 d62 [1, 0, 1, 0] (look [(0, a0), (3, a3)])
theorem ref02_Rising.f_eq (l1 : List (List AV)) : ref02_Rising (AV.sl 1 l1) = (ref02_Rising.l0 (AV.sl 1 l1) (AV.int .i64 0)) :=
  (run62 _).trans (by kernel_rfl)
theorem ref02_Rising.l0_eq (l1 : List (List AV)) (n2 : Int) : ref02_Rising.l0 (AV.sl 1 l1) (AV.int .i64 n2) = (ifB (decide ((n2 : Int) < (List.length l1 : Int))) (idx l1 n2 fun c3 => getC c3 0 fun a4 => asS a4 fun s5 => (ref02_Right (AV.str s5)).bind fun r6 => asB r6 fun b7 => (ifB (!b7) (some true) ((ifB (decide ((0 : Int) < n2)) (idx l1 (w64 (n2 - 1)) fun c10 => getC c10 0 fun a11 => asS a11 fun s12 => idx l1 n2 fun c13 => getC c13 0 fun a14 => asS a14 fun s15 => some (!bytesLt s12 s15)) (some false) : Option Bool).bind fun b9 => some b9) : Option Bool).bind fun b8 => ifB b8 (some (AV.bool false)) (ref02_Rising.l0 (AV.sl 1 l1) (AV.int .i64 (w64 (n2 + 1))))) (some (AV.bool true))) :=
  (loopAt_eq S 62 d62 [1, 0, 1, 0] _).trans (by kernel_rfl)

/-! treillage/treillageref07.Meet: function 63 -/
noncomputable def d63 : FD := ⟨(Tryd.f63.body).getD .skip, Tryd.f63.results.toList, 87⟩
theorem run63 (l : List AV) : ωκ S 63 l = runM τ ann63 (ωκ S) [5] lpκ d63.code (look (argEnv 0 l)) (retV τ d63.rs) :=
  ωκ_run S 63 l d63 rfl (by show (Tryd.prog.funcs[63]?).bind toFD = _; rw [Tryd.func63]; rfl)
noncomputable def ref07_Meet.j0 (a2 a3 a4 a6 : AV) : Option AV := joinAt S 63 d63 [1, 1, 1, 1] (look [(2, a2), (3, a3), (4, a4), (6, a6)])
noncomputable def ref07_Meet.j1 (a2 a3 a4 a6 : AV) : Option AV := joinAt S 63 d63 [1, 1, 1, 1, 1] (look [(2, a2), (3, a3), (4, a4), (6, a6)])
noncomputable def ref07_Meet.j2 (a2 a3 a4 a6 : AV) : Option AV := joinAt S 63 d63 [1, 1, 1, 1, 1, 1] (look [(2, a2), (3, a3), (4, a4), (6, a6)])
theorem ref07_Meet.f_eq (c1 : List AV) (c2 : List AV) : ref07_Meet (AV.agg 8 c1) (AV.agg 8 c2) = ((ref07_Right (AV.agg 8 c1)).bind fun r3 => asB r3 fun b4 => (ifB (!b4) (some true) ((ref07_Right (AV.agg 8 c2)).bind fun r6 => asB r6 fun b7 => some (!b7)) : Option Bool).bind fun b5 => (ifB b5 (some true) (getC c1 0 fun a9 => asI .i64 a9 fun n10 => getC c2 0 fun a11 => asI .i64 a11 fun n12 => some (!decide ((n10 : Int) = n12))) : Option Bool).bind fun b8 => ifB b8 (some (.tup [AV.agg 8 [AV.int .i64 0, AV.int .i64 0, AV.int .i64 0, AV.str [], AV.bool false, AV.bool false, AV.bool false, AV.sl 2 []], AV.bool false])) (getC c1 0 fun a13 => asI .i64 a13 fun n14 => ifB (decide ((n14 : Int) = 3)) (getC c1 4 fun a15 => asB a15 fun b16 => (ifB (!b16) (getC c2 4 fun a18 => asB a18 fun b19 => some (!b19)) (some false) : Option Bool).bind fun b17 => (ifB b17 (getC c1 3 fun a21 => asS a21 fun s22 => getC c2 3 fun a23 => asS a23 fun s24 => some (!decide ((s22 : List UInt8) = s24))) (some false) : Option Bool).bind fun b20 => ifB b20 (some (.tup [AV.agg 8 [AV.int .i64 0, AV.int .i64 0, AV.int .i64 0, AV.str [], AV.bool false, AV.bool false, AV.bool false, AV.sl 2 []], AV.bool false])) (getC c1 4 fun a25 => asB a25 fun b26 => ifB b26 (getC c2 4 fun a27 => asB a27 fun b28 => getC c2 3 fun a29 => asS a29 fun s30 => ref07_Meet.j0 (AV.boxv 8 c1 []) (AV.boxv 8 c2 []) (AV.boxv 8 [AV.int .i64 0, AV.int .i64 0, AV.int .i64 0, AV.str [], AV.bool false, AV.bool false, AV.bool false, AV.sl 2 []] [(7, AV.own 2 [])]) (AV.boxv 8 (List.set (List.set (List.set c1 5 (AV.bool false)) 4 (AV.bool b28)) 3 (AV.str s30)) [])) (ref07_Meet.j0 (AV.boxv 8 c1 []) (AV.boxv 8 c2 []) (AV.boxv 8 [AV.int .i64 0, AV.int .i64 0, AV.int .i64 0, AV.str [], AV.bool false, AV.bool false, AV.bool false, AV.sl 2 []] [(7, AV.own 2 [])]) (AV.boxv 8 (List.set c1 5 (AV.bool false)) [])))) (ref07_Meet.j0 (AV.boxv 8 c1 []) (AV.boxv 8 c2 []) (AV.boxv 8 [AV.int .i64 0, AV.int .i64 0, AV.int .i64 0, AV.str [], AV.bool false, AV.bool false, AV.bool false, AV.sl 2 []] [(7, AV.own 2 [])]) (AV.boxv 8 (List.set c1 5 (AV.bool false)) [])))) :=
  (run63 _).trans (by kernel_rfl)
theorem ref07_Meet.j0_eq (c1 : List AV) (c2 : List AV) (n3 : Int) (n4 : Int) (n5 : Int) (s6 : List UInt8) (l7 : List (List AV)) (l8 : List (List AV)) (c9 : List AV) : ref07_Meet.j0 (AV.boxv 8 c1 []) (AV.boxv 8 c2 []) (AV.boxv 8 [AV.int .i64 n3, AV.int .i64 n4, AV.int .i64 n5, AV.str s6, AV.bool false, AV.bool false, AV.bool false, AV.sl 2 l7] [(7, AV.own 2 l8)]) (AV.boxv 8 c9 []) = (getC c2 1 fun a10 => asI .i64 a10 fun n11 => getC c1 1 fun a12 => asI .i64 a12 fun n13 => ifB (decide ((n13 : Int) < n11)) (getC c2 1 fun a14 => asI .i64 a14 fun n15 => ref07_Meet.j1 (AV.boxv 8 c1 []) (AV.boxv 8 c2 []) (AV.boxv 8 [AV.int .i64 n3, AV.int .i64 n4, AV.int .i64 n5, AV.str s6, AV.bool false, AV.bool false, AV.bool false, AV.sl 2 l7] [(7, AV.own 2 l8)]) (AV.boxv 8 (List.set c9 1 (AV.int .i64 n15)) [])) (ref07_Meet.j1 (AV.boxv 8 c1 []) (AV.boxv 8 c2 []) (AV.boxv 8 [AV.int .i64 n3, AV.int .i64 n4, AV.int .i64 n5, AV.str s6, AV.bool false, AV.bool false, AV.bool false, AV.sl 2 l7] [(7, AV.own 2 l8)]) (AV.boxv 8 c9 []))) :=
  (joinAt_eq S 63 d63 [1, 1, 1, 1] _).trans (by kernel_rfl)
theorem ref07_Meet.j1_eq (c1 : List AV) (c2 : List AV) (n3 : Int) (n4 : Int) (n5 : Int) (s6 : List UInt8) (l7 : List (List AV)) (l8 : List (List AV)) (c9 : List AV) : ref07_Meet.j1 (AV.boxv 8 c1 []) (AV.boxv 8 c2 []) (AV.boxv 8 [AV.int .i64 n3, AV.int .i64 n4, AV.int .i64 n5, AV.str s6, AV.bool false, AV.bool false, AV.bool false, AV.sl 2 l7] [(7, AV.own 2 l8)]) (AV.boxv 8 c9 []) = (getC c2 2 fun a10 => asI .i64 a10 fun n11 => getC c1 2 fun a12 => asI .i64 a12 fun n13 => ifB (decide ((n11 : Int) < n13)) (getC c2 2 fun a14 => asI .i64 a14 fun n15 => ref07_Meet.j2 (AV.boxv 8 c1 []) (AV.boxv 8 c2 []) (AV.boxv 8 [AV.int .i64 n3, AV.int .i64 n4, AV.int .i64 n5, AV.str s6, AV.bool false, AV.bool false, AV.bool false, AV.sl 2 l7] [(7, AV.own 2 l8)]) (AV.boxv 8 (List.set c9 2 (AV.int .i64 n15)) [])) (ref07_Meet.j2 (AV.boxv 8 c1 []) (AV.boxv 8 c2 []) (AV.boxv 8 [AV.int .i64 n3, AV.int .i64 n4, AV.int .i64 n5, AV.str s6, AV.bool false, AV.bool false, AV.bool false, AV.sl 2 l7] [(7, AV.own 2 l8)]) (AV.boxv 8 c9 []))) :=
  (joinAt_eq S 63 d63 [1, 1, 1, 1, 1] _).trans (by kernel_rfl)
theorem ref07_Meet.j2_eq (c1 : List AV) (c2 : List AV) (n3 : Int) (n4 : Int) (n5 : Int) (s6 : List UInt8) (l7 : List (List AV)) (l8 : List (List AV)) (c9 : List AV) : ref07_Meet.j2 (AV.boxv 8 c1 []) (AV.boxv 8 c2 []) (AV.boxv 8 [AV.int .i64 n3, AV.int .i64 n4, AV.int .i64 n5, AV.str s6, AV.bool false, AV.bool false, AV.bool false, AV.sl 2 l7] [(7, AV.own 2 l8)]) (AV.boxv 8 c9 []) = (getC c9 1 fun a10 => asI .i64 a10 fun n11 => getC c9 2 fun a12 => asI .i64 a12 fun n13 => ifB (decide ((n13 : Int) < n11)) (some (.tup [AV.agg 8 [AV.int .i64 0, AV.int .i64 0, AV.int .i64 0, AV.str [], AV.bool false, AV.bool false, AV.bool false, AV.sl 2 []], AV.bool false])) ((ref07_Single (AV.agg 8 c9)).bind fun r14 => asB r14 fun b15 => (ifB (!b15) (getC c1 5 fun a17 => asB a17 fun b18 => (ifB b18 (some true) (getC c2 5 fun a20 => asB a20 fun b21 => some b21) : Option Bool).bind fun b19 => some b19) (some false) : Option Bool).bind fun b16 => ifB b16 (some (.tup [AV.agg 8 (List.set c9 5 (AV.bool true)), AV.bool true])) (some (.tup [AV.agg 8 c9, AV.bool true])))) :=
  (joinAt_eq S 63 d63 [1, 1, 1, 1, 1, 1] _).trans (by kernel_rfl)

/-! treillage/treillageref07.Same: function 64 -/
noncomputable def d64 : FD := ⟨(Tryd.f64.body).getD .skip, Tryd.f64.results.toList, 53⟩
theorem run64 (l : List AV) : ωκ S 64 l = runM τ (fun _ => none) (ωκ S) [4] lpκ d64.code (look (argEnv 0 l)) (retV τ d64.rs) :=
  ωκ_run S 64 l d64 rfl (by show (Tryd.prog.funcs[64]?).bind toFD = _; rw [Tryd.func64]; rfl)
theorem ref07_Same.f_eq (c1 : List AV) (c2 : List AV) : ref07_Same (AV.agg 8 c1) (AV.agg 8 c2) = ((ref07_Right (AV.agg 8 c1)).bind fun r3 => asB r3 fun b4 => (ifB (!b4) (some true) ((ref07_Right (AV.agg 8 c2)).bind fun r6 => asB r6 fun b7 => some (!b7)) : Option Bool).bind fun b5 => ifB b5 (some (AV.bool false)) (getC c1 0 fun a8 => asI .i64 a8 fun n9 => getC c2 0 fun a10 => asI .i64 a10 fun n11 => (ifB (decide ((n9 : Int) = n11)) (getC c1 1 fun a13 => asI .i64 a13 fun n14 => getC c2 1 fun a15 => asI .i64 a15 fun n16 => some (decide ((n14 : Int) = n16))) (some false) : Option Bool).bind fun b12 => (ifB b12 (getC c1 2 fun a18 => asI .i64 a18 fun n19 => getC c2 2 fun a20 => asI .i64 a20 fun n21 => some (decide ((n19 : Int) = n21))) (some false) : Option Bool).bind fun b17 => (ifB b17 (getC c1 3 fun a23 => asS a23 fun s24 => getC c2 3 fun a25 => asS a25 fun s26 => some (decide ((s24 : List UInt8) = s26))) (some false) : Option Bool).bind fun b22 => (ifB b22 (getC c1 4 fun a28 => asB a28 fun b29 => getC c2 4 fun a30 => asB a30 fun b31 => some (b29 == b31)) (some false) : Option Bool).bind fun b27 => (ifB b27 (getC c1 5 fun a33 => asB a33 fun b34 => getC c2 5 fun a35 => asB a35 fun b36 => some (b34 == b36)) (some false) : Option Bool).bind fun b32 => some (AV.bool b32))) :=
  (run64 _).trans (by kernel_rfl)

/-! treillage/lat.anything: function 65 -/
noncomputable def d65 : FD := ⟨(Tryd.f65.body).getD .skip, Tryd.f65.results.toList, 7⟩
theorem run65 (l : List AV) : ωκ S 65 l = runM τ (fun _ => none) (ωκ S) [2] lpκ d65.code (look (argEnv 0 l)) (retV τ d65.rs) :=
  ωκ_run S 65 l d65 rfl (by show (Tryd.prog.funcs[65]?).bind toFD = _; rw [Tryd.func65]; rfl)
theorem lat_anything.f_eq (c1 : List AV) : lat_anything (AV.agg 8 c1) = ((rank_Terms (AV.agg 8 c1) (AV.agg 8 [AV.int .i64 5, AV.int .i64 0, AV.int .i64 0, AV.str [], AV.bool false, AV.bool false, AV.bool false, AV.sl 2 []])).bind fun r2 => asI .i64 r2 fun n3 => some (AV.bool (decide ((n3 : Int) = 0)))) :=
  (run65 _).trans (by kernel_rfl)

/-! treillage/lat.bare: function 66 -/
noncomputable def d66 : FD := ⟨(Tryd.f66.body).getD .skip, Tryd.f66.results.toList, 26⟩
theorem run66 (l : List AV) : ωκ S 66 l = runM τ (fun _ => none) (ωκ S) [2] lpκ d66.code (look (argEnv 0 l)) (retV τ d66.rs) :=
  ωκ_run S 66 l d66 rfl (by show (Tryd.prog.funcs[66]?).bind toFD = _; rw [Tryd.func66]; rfl)
theorem lat_bare.f_eq (c1 : List AV) : lat_bare (AV.agg 8 c1) = (getC c1 1 fun a2 => asI .i64 a2 fun n3 => (ifB (decide ((n3 : Int) = 0)) (getC c1 2 fun a5 => asI .i64 a5 fun n6 => some (decide ((n6 : Int) = 0))) (some false) : Option Bool).bind fun b4 => (ifB b4 (getC c1 3 fun a8 => asS a8 fun s9 => some (decide ((s9 : List UInt8) = []))) (some false) : Option Bool).bind fun b7 => (ifB b7 (getC c1 4 fun a11 => asB a11 fun b12 => some (!b12)) (some false) : Option Bool).bind fun b10 => (ifB b10 (getC c1 5 fun a14 => asB a14 fun b15 => some (!b15)) (some false) : Option Bool).bind fun b13 => some (AV.bool b13)) :=
  (run66 _).trans (by kernel_rfl)

/-! treillage/lat.rising: function 67 -/
noncomputable def d67 : FD := ⟨(Tryd.f67.body).getD .skip, Tryd.f67.results.toList, 32⟩
theorem run67 (l : List AV) : ωκ S 67 l = runM τ ann67 (ωκ S) [2] lpκ d67.code (look (argEnv 0 l)) (retV τ d67.rs) :=
  ωκ_run S 67 l d67 rfl (by show (Tryd.prog.funcs[67]?).bind toFD = _; rw [Tryd.func67]; rfl)
noncomputable def lat_rising.l0 (a0 a5 a6 a7 : AV) : Option AV := loopAt S 67 d67 [1, 0, 1, 0] (look [(0, a0), (5, a5), (6, a6), (7, a7)])
theorem lat_rising.f_eq (l1 : List (List AV)) : lat_rising (AV.sl 2 l1) = (lat_rising.l0 (AV.sl 2 l1) (AV.sl 2 l1) (AV.int .i64 (List.length l1 : Int)) (AV.int .i64 0)) :=
  (run67 _).trans (by kernel_rfl)
theorem lat_rising.l0_eq (l1 : List (List AV)) (l2 : List (List AV)) (n3 : Int) (n4 : Int) : lat_rising.l0 (AV.sl 2 l1) (AV.sl 2 l2) (AV.int .i64 n3) (AV.int .i64 n4) = (ifB (decide ((n4 : Int) < n3)) (idx l2 n4 fun c5 => getC c5 0 fun a6 => asS a6 fun s7 => (name_Right (AV.str s7)).bind fun r8 => asB r8 fun b9 => (ifB (!b9) (some true) ((ifB (decide ((0 : Int) < n4)) (getC c5 0 fun a12 => asS a12 fun s13 => idx l1 (w64 (n4 - 1)) fun c14 => getC c14 0 fun a15 => asS a15 fun s16 => some (bytesLt s13 s16 || decide ((s13 : List UInt8) = s16))) (some false) : Option Bool).bind fun b11 => some b11) : Option Bool).bind fun b10 => ifB b10 (some (AV.bool false)) (lat_rising.l0 (AV.sl 2 l1) (AV.sl 2 l2) (AV.int .i64 n3) (AV.int .i64 (w64 (n4 + 1))))) (some (AV.bool true))) :=
  (loopAt_eq S 67 d67 [1, 0, 1, 0] _).trans (by kernel_rfl)

/-! treillage/rank.first: function 68 -/
noncomputable def d68 : FD := ⟨(Tryd.f68.body).getD .skip, Tryd.f68.results.toList, 15⟩
theorem run68 (l : List AV) : ωκ S 68 l = runM τ ann68 (ωκ S) [2] lpκ d68.code (look (argEnv 0 l)) (retV τ d68.rs) :=
  ωκ_run S 68 l d68 rfl (by show (Tryd.prog.funcs[68]?).bind toFD = _; rw [Tryd.func68]; rfl)
noncomputable def rank_first.l0 (a5 a6 a7 : AV) : Option AV := loopAt S 68 d68 [1, 0, 1, 0] (look [(5, a5), (6, a6), (7, a7)])
theorem rank_first.f_eq (l1 : List (List AV)) : rank_first (AV.sl 1 l1) = (rank_first.l0 (AV.sl 1 l1) (AV.int .i64 (List.length l1 : Int)) (AV.int .i64 0)) :=
  (run68 _).trans (by kernel_rfl)
theorem rank_first.l0_eq (l1 : List (List AV)) (n2 : Int) (n3 : Int) : rank_first.l0 (AV.sl 1 l1) (AV.int .i64 n2) (AV.int .i64 n3) = (ifB (decide ((n3 : Int) < n2)) (idx l1 n3 fun c4 => getC c4 0 fun a5 => asI .i64 a5 fun n6 => ifB (!decide ((n6 : Int) = 0)) (some (AV.int .i64 n6)) (rank_first.l0 (AV.sl 1 l1) (AV.int .i64 n2) (AV.int .i64 (w64 (n3 + 1))))) (some (AV.int .i64 0))) :=
  (loopAt_eq S 68 d68 [1, 0, 1, 0] _).trans (by kernel_rfl)
end Go.Proofs.YtffojfcinkihnaaDoor.Abs
