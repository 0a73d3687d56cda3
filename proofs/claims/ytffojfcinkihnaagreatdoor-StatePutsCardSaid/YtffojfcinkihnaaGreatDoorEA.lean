/- Several texts of mine in one (merge.py). -/
import Derived.Test.YtffojfcinkihnaaGreatDoorAbsT
/- What the code comes to, function by function (printed by gen.py). -/
set_option linter.unusedVariables false
set_option linter.unusedSimpArgs false
set_option linter.unusedSectionVars false
set_option linter.deprecated false
set_option linter.unnecessarySimpa false
namespace Go.Proofs.YtffojfcinkihnaaGreatDoor.Abs
set_option linter.unusedVariables false
set_option maxRecDepth 100000

/-! treillage/treillagelaw30.StateRights: function 4 -/
noncomputable def d4 : FD := ⟨(Tryz.f4.body).getD .skip, Tryz.f4.results.toList, 47⟩
theorem run4 (l : List AV) : ωκ S 4 l = runM τ (fun _ => none) (ωκ S) [6] lpκ d4.code (look (argEnv 0 l)) (retV τ d4.rs) :=
  ωκ_run S 4 l d4 rfl (by show (Tryz.prog.funcs[4]?).bind toFD = _; rw [Tryz.func4]; rfl)
theorem law30_StateRights.f_eq (l1 : List (List AV)) (l2 : List (List AV)) (s3 : List UInt8) : law30_StateRights (AV.sl 3 l1) (AV.sl 3 l2) (AV.str s3) = ((law30_Few (AV.sl 3 l1)).bind fun r4 => asB r4 fun b5 => (ifB (!b5) (some true) ((law30_Few (AV.sl 3 l2)).bind fun r7 => asB r7 fun b8 => some (!b8)) : Option Bool).bind fun b6 => (ifB b6 (some true) (some (decide ((100 : Int) < (List.length s3 : Int)))) : Option Bool).bind fun b9 => ifB b9 (law30_awake.bind fun r10 => asB r10 fun b11 => some (AV.bool b11)) (law30_awake.bind fun r12 => asB r12 fun b13 => (ifB b13 ((state_Right (AV.sl 3 l1)).bind fun r15 => asB r15 fun b16 => (ref30_Right (AV.sl 3 l1)).bind fun r17 => asB r17 fun b18 => some (b16 == b18)) (some false) : Option Bool).bind fun b14 => (ifB b14 ((state_Same (AV.sl 3 l1) (AV.sl 3 l2)).bind fun r20 => asB r20 fun b21 => (ref29_Things (AV.sl 3 l1) (AV.sl 3 l2)).bind fun r22 => asB r22 fun b23 => some (b21 == b23)) (some false) : Option Bool).bind fun b19 => (ifB b19 ((state_Find (AV.sl 3 l1) (AV.str s3)).bind fun r25 => asI .i64 r25 fun n26 => (ref30_Find (AV.sl 3 l1) (AV.str s3)).bind fun r27 => asI .i64 r27 fun n28 => some (decide ((n26 : Int) = n28))) (some false) : Option Bool).bind fun b24 => some (AV.bool b24))) :=
  (run4 _).trans (by kernel_rfl)

/-! treillage/treillagelaw35.ApplyDoes: function 5 -/
noncomputable def d5 : FD := ⟨(Tryz.f5.body).getD .skip, Tryz.f5.results.toList, 67⟩
theorem run5 (l : List AV) : ωκ S 5 l = runM τ (fun _ => none) (ωκ S) [6] lpκ d5.code (look (argEnv 0 l)) (retV τ d5.rs) :=
  ωκ_run S 5 l d5 rfl (by show (Tryz.prog.funcs[5]?).bind toFD = _; rw [Tryz.func5]; rfl)
theorem law35_ApplyDoes.f_eq (l1 : List (List AV)) (l2 : List (List AV)) (l3 : List (List AV)) : law35_ApplyDoes (AV.sl 3 l1) (AV.sl 4 l2) (AV.sl 1 l3) = ((law30_Few (AV.sl 3 l1)).bind fun r4 => asB r4 fun b5 => (ifB (!b5) (some true) ((law33_Few (AV.sl 4 l2)).bind fun r7 => asB r7 fun b8 => some (!b8)) : Option Bool).bind fun b6 => (ifB b6 (some true) (some (decide ((60 : Int) < (List.length l3 : Int)))) : Option Bool).bind fun b9 => ifB b9 (law35_awake.bind fun r10 => asB r10 fun b11 => some (AV.bool b11)) ((apply_Actions (AV.sl 3 l1) (AV.sl 4 l2) (AV.sl 1 l3)).bind fun r12 => asT3 r12 fun a13 a14 a15 => asL 3 a13 fun l16 => asI .i64 a14 fun n17 => asI .i64 a15 fun n18 => (ref35_Actions (AV.sl 3 l1) (AV.sl 4 l2) (AV.sl 1 l3)).bind fun r19 => asT3 r19 fun a20 a21 a22 => asL 3 a20 fun l23 => asI .i64 a21 fun n24 => asI .i64 a22 fun n25 => law35_awake.bind fun r26 => asB r26 fun b27 => (ifB b27 ((ref29_Things (AV.sl 3 l16) (AV.sl 3 l23)).bind fun r29 => asB r29 fun b30 => some b30) (some false) : Option Bool).bind fun b28 => (ifB b28 (some (decide ((n17 : Int) = n24))) (some false) : Option Bool).bind fun b31 => (ifB b31 (some (decide ((n18 : Int) = n25))) (some false) : Option Bool).bind fun b32 => (ifB b32 ((ifB (!decide ((n18 : Int) = 0)) (some true) ((ref30_Right (AV.sl 3 l16)).bind fun r35 => asB r35 fun b36 => some b36) : Option Bool).bind fun b34 => some b34) (some false) : Option Bool).bind fun b33 => some (AV.bool b33))) :=
  (run5 _).trans (by kernel_rfl)

/-! treillage/treillagelaw30.Few: function 6 -/
noncomputable def d6 : FD := ⟨(Tryz.f6.body).getD .skip, Tryz.f6.results.toList, 59⟩
theorem run6 (l : List AV) : ωκ S 6 l = runM τ ann6 (ωκ S) [2] lpκ d6.code (look (argEnv 0 l)) (retV τ d6.rs) :=
  ωκ_run S 6 l d6 rfl (by show (Tryz.prog.funcs[6]?).bind toFD = _; rw [Tryz.func6]; rfl)
noncomputable def law30_Few.l0 (a0 a3 : AV) : Option AV := loopAt S 6 d6 [1, 1, 0, 1, 0] (look [(0, a0), (3, a3)])
noncomputable def law30_Few.l1 (a0 a3 a4 : AV) : Option AV := loopAt S 6 d6 [1, 1, 0, 1, 0, 0, 1, 0, 0, 1, 1, 0] (look [(0, a0), (3, a3), (4, a4)])
theorem law30_Few.f_eq (l1 : List (List AV)) : law30_Few (AV.sl 3 l1) = (ifB (decide ((12 : Int) < (List.length l1 : Int))) (some (AV.bool false)) (law30_Few.l0 (AV.sl 3 l1) (AV.int .i64 0))) :=
  (run6 _).trans (by kernel_rfl)
theorem law30_Few.l0_eq (l1 : List (List AV)) (n2 : Int) : law30_Few.l0 (AV.sl 3 l1) (AV.int .i64 n2) = (ifB (decide ((n2 : Int) < (List.length l1 : Int))) (idx l1 n2 fun c3 => getC c3 0 fun a4 => asS a4 fun s5 => (ifB (decide ((100 : Int) < (List.length s5 : Int))) (some true) (idx l1 n2 fun c7 => getC c7 2 fun a8 => asL 1 a8 fun l9 => some (decide ((20 : Int) < (List.length l9 : Int)))) : Option Bool).bind fun b6 => (ifB b6 (some true) (idx l1 n2 fun c11 => getC c11 1 fun a12 => (law09_Few (AV.agg 1 [a12])).bind fun r13 => asB r13 fun b14 => some (!b14)) : Option Bool).bind fun b10 => ifB b10 (some (AV.bool false)) (law30_Few.l1 (AV.sl 3 l1) (AV.int .i64 n2) (AV.int .i64 0))) (some (AV.bool true))) :=
  (loopAt_eq S 6 d6 [1, 1, 0, 1, 0] _).trans (by kernel_rfl)
theorem law30_Few.l1_eq (l1 : List (List AV)) (n2 : Int) (n3 : Int) : law30_Few.l1 (AV.sl 3 l1) (AV.int .i64 n2) (AV.int .i64 n3) = (idx l1 n2 fun c4 => getC c4 2 fun a5 => asL 1 a5 fun l6 => ifB (decide ((n3 : Int) < (List.length l6 : Int))) (idx l1 n2 fun c7 => getC c7 2 fun a8 => asL 1 a8 fun l9 => idx l9 n3 fun c10 => getC c10 0 fun a11 => asS a11 fun s12 => ifB (decide ((100 : Int) < (List.length s12 : Int))) (some (AV.bool false)) (law30_Few.l1 (AV.sl 3 l1) (AV.int .i64 n2) (AV.int .i64 (w64 (n3 + 1))))) (law30_Few.l0 (AV.sl 3 l1) (AV.int .i64 (w64 (n2 + 1))))) :=
  (loopAt_eq S 6 d6 [1, 1, 0, 1, 0, 0, 1, 0, 0, 1, 1, 0] _).trans (by kernel_rfl)

/-! treillage/treillagelaw30.awake: function 7 -/
noncomputable def d7 : FD := ⟨(Tryz.f7.body).getD .skip, Tryz.f7.results.toList, 30⟩
theorem run7 (l : List AV) : ωκ S 7 l = runM τ (fun _ => none) (ωκ S) [0] lpκ d7.code (look (argEnv 0 l)) (retV τ d7.rs) :=
  ωκ_run S 7 l d7 rfl (by show (Tryz.prog.funcs[7]?).bind toFD = _; rw [Tryz.func7]; rfl)
theorem law30_awake.f_eq  : law30_awake = ((state_Encode (AV.sl 3 [])).bind fun r1 => asT2 r1 fun a2 a3 => asS a2 fun s4 => asI .i64 a3 fun n5 => (ifB (decide ((s4 : List UInt8) = [0])) (some (decide ((n5 : Int) = 0))) (some false) : Option Bool).bind fun b6 => (ifB b6 ((state_Right (AV.sl 3 ([[AV.str [97], AV.sl 8 ([[AV.int .i64 4, AV.int .i64 0, AV.int .i64 0, AV.str [], AV.bool false, AV.bool false, AV.bool false, AV.sl 2 []]]), AV.sl 1 ([[AV.str [98]]])]]))).bind fun r8 => asB r8 fun b9 => some b9) (some false) : Option Bool).bind fun b7 => (ifB b7 ((state_Find (AV.sl 3 ([[AV.str [97], AV.sl 8 ([[AV.int .i64 4, AV.int .i64 0, AV.int .i64 0, AV.str [], AV.bool false, AV.bool false, AV.bool false, AV.sl 2 []]]), AV.sl 1 ([[AV.str [98]]])]])) (AV.str [97])).bind fun r11 => asI .i64 r11 fun n12 => some (decide ((n12 : Int) = 0))) (some false) : Option Bool).bind fun b10 => some (AV.bool b10)) :=
  (run7 _).trans (by kernel_rfl)

/-! treillage/treillageref30.Put: function 8 -/
noncomputable def d8 : FD := ⟨(Tryz.f8.body).getD .skip, Tryz.f8.results.toList, 49⟩
theorem run8 (l : List AV) : ωκ S 8 l = runM τ ann8 (ωκ S) [4] lpκ d8.code (look (argEnv 0 l)) (retV τ d8.rs) :=
  ωκ_run S 8 l d8 rfl (by show (Tryz.prog.funcs[8]?).bind toFD = _; rw [Tryz.func8]; rfl)
noncomputable def ref30_Put.l0 (a3 a5 a6 a7 a8 : AV) : Option AV := loopAt S 8 d8 [1, 1, 1, 1, 0, 1, 0] (look [(3, a3), (5, a5), (6, a6), (7, a7), (8, a8)])
noncomputable def ref30_Put.j1 (a3 a5 a6 a7 a8 : AV) : Option AV := joinAt S 8 d8 [1, 1, 1, 1, 0, 1, 0, 0, 1, 0, 0] (look [(3, a3), (5, a5), (6, a6), (7, a7), (8, a8)])
theorem ref30_Put.f_eq (l1 : List (List AV)) (c2 : List AV) : ref30_Put (AV.sl 3 l1) (AV.agg 3 c2) = (getC c2 0 fun a3 => asS a3 fun s4 => (ref30_Drop (AV.sl 3 l1) (AV.str s4)).bind fun r5 => asL 3 r5 fun l6 => ref30_Put.l0 (AV.boxv 3 c2 []) (AV.sl 3 l6) (AV.own 3 []) (AV.bool false) (AV.int .i64 0)) :=
  (run8 _).trans (by kernel_rfl)
theorem ref30_Put.l0_eq (c1 : List AV) (l2 : List (List AV)) (l3 : List (List AV)) (n4 : Int) : ref30_Put.l0 (AV.boxv 3 c1 []) (AV.sl 3 l2) (AV.own 3 l3) (AV.bool false) (AV.int .i64 n4) = (ifB (decide ((n4 : Int) < (List.length l2 : Int))) ((idx l2 n4 fun c6 => getC c6 0 fun a7 => asS a7 fun s8 => getC c1 0 fun a9 => asS a9 fun s10 => some (!(bytesLt s8 s10 || decide ((s8 : List UInt8) = s10))) : Option Bool).bind fun b5 => ifB b5 (guardK (Nat.ble (List.length l3 + List.length [c1]) lim) <| ref30_Put.j1 (AV.boxv 3 c1 []) (AV.sl 3 l2) (AV.own 3 (l3 ++ [c1])) (AV.bool true) (AV.int .i64 n4)) (ref30_Put.j1 (AV.boxv 3 c1 []) (AV.sl 3 l2) (AV.own 3 l3) (AV.bool false) (AV.int .i64 n4))) (guardK (Nat.ble (List.length l3 + List.length [c1]) lim) <| some (AV.own 3 (l3 ++ [c1])))) :=
  (loopAt_eq S 8 d8 [1, 1, 1, 1, 0, 1, 0] _).trans (by kernel_rfl)
theorem ref30_Put.j1_eq (c1 : List AV) (l2 : List (List AV)) (l3 : List (List AV)) (n4 : Int) : ref30_Put.j1 (AV.boxv 3 c1 []) (AV.sl 3 l2) (AV.own 3 l3) (AV.bool true) (AV.int .i64 n4) = (idx l2 n4 fun c5 => guardK (Nat.ble (List.length l3 + List.length [c5]) lim) <| ref30_Put.l0 (AV.boxv 3 c1 []) (AV.sl 3 l2) (AV.own 3 (l3 ++ [c5])) (AV.bool true) (AV.int .i64 (w64 (n4 + 1)))) :=
  (joinAt_eq S 8 d8 [1, 1, 1, 1, 0, 1, 0, 0, 1, 0, 0] _).trans (by kernel_rfl)
theorem ref30_Put.j1_eq2 (c1 : List AV) (l2 : List (List AV)) (l3 : List (List AV)) (n4 : Int) : ref30_Put.j1 (AV.boxv 3 c1 []) (AV.sl 3 l2) (AV.own 3 l3) (AV.bool false) (AV.int .i64 n4) = (idx l2 n4 fun c5 => guardK (Nat.ble (List.length l3 + List.length [c5]) lim) <| ref30_Put.l0 (AV.boxv 3 c1 []) (AV.sl 3 l2) (AV.own 3 (l3 ++ [c5])) (AV.bool false) (AV.int .i64 (w64 (n4 + 1)))) :=
  (joinAt_eq S 8 d8 [1, 1, 1, 1, 0, 1, 0, 0, 1, 0, 0] _).trans (by kernel_rfl)
theorem ref30_Put.l0_eq2 (c1 : List AV) (l2 : List (List AV)) (l3 : List (List AV)) (n4 : Int) : ref30_Put.l0 (AV.boxv 3 c1 []) (AV.sl 3 l2) (AV.own 3 l3) (AV.bool true) (AV.int .i64 n4) = (ifB (decide ((n4 : Int) < (List.length l2 : Int))) (ref30_Put.j1 (AV.boxv 3 c1 []) (AV.sl 3 l2) (AV.own 3 l3) (AV.bool true) (AV.int .i64 n4)) (some (AV.own 3 l3))) :=
  (loopAt_eq S 8 d8 [1, 1, 1, 1, 0, 1, 0] _).trans (by kernel_rfl)

/-! treillage/treillageref30.Drop: function 10 -/
noncomputable def d10 : FD := ⟨(Tryz.f10.body).getD .skip, Tryz.f10.results.toList, 28⟩
theorem run10 (l : List AV) : ωκ S 10 l = runM τ ann10 (ωκ S) [4] lpκ d10.code (look (argEnv 0 l)) (retV τ d10.rs) :=
  ωκ_run S 10 l d10 rfl (by show (Tryz.prog.funcs[10]?).bind toFD = _; rw [Tryz.func10]; rfl)
noncomputable def ref30_Drop.l0 (a0 a1 a5 a6 : AV) : Option AV := loopAt S 10 d10 [1, 1, 0, 1, 0] (look [(0, a0), (1, a1), (5, a5), (6, a6)])
theorem ref30_Drop.f_eq (l1 : List (List AV)) (s2 : List UInt8) : ref30_Drop (AV.sl 3 l1) (AV.str s2) = (ref30_Drop.l0 (AV.sl 3 l1) (AV.str s2) (AV.own 3 []) (AV.int .i64 0)) :=
  (run10 _).trans (by kernel_rfl)
theorem ref30_Drop.l0_eq (l1 : List (List AV)) (s2 : List UInt8) (l3 : List (List AV)) (n4 : Int) : ref30_Drop.l0 (AV.sl 3 l1) (AV.str s2) (AV.own 3 l3) (AV.int .i64 n4) = (ifB (decide ((n4 : Int) < (List.length l1 : Int))) (idx l1 n4 fun c5 => getC c5 0 fun a6 => asS a6 fun s7 => ifB (!decide ((s7 : List UInt8) = s2)) (idx l1 n4 fun c8 => guardK (Nat.ble (List.length l3 + List.length [c8]) lim) <| ref30_Drop.l0 (AV.sl 3 l1) (AV.str s2) (AV.own 3 (l3 ++ [c8])) (AV.int .i64 (w64 (n4 + 1)))) (ref30_Drop.l0 (AV.sl 3 l1) (AV.str s2) (AV.own 3 l3) (AV.int .i64 (w64 (n4 + 1))))) (some (AV.own 3 l3))) :=
  (loopAt_eq S 10 d10 [1, 1, 0, 1, 0] _).trans (by kernel_rfl)

/-! treillage/treillageref29.Things: function 13 -/
noncomputable def d13 : FD := ⟨(Tryz.f13.body).getD .skip, Tryz.f13.results.toList, 27⟩
theorem run13 (l : List AV) : ωκ S 13 l = runM τ ann13 (ωκ S) [4] lpκ d13.code (look (argEnv 0 l)) (retV τ d13.rs) :=
  ωκ_run S 13 l d13 rfl (by show (Tryz.prog.funcs[13]?).bind toFD = _; rw [Tryz.func13]; rfl)
noncomputable def ref29_Things.l0 (a0 a1 a5 : AV) : Option AV := loopAt S 13 d13 [1, 1, 0, 1, 0] (look [(0, a0), (1, a1), (5, a5)])
theorem ref29_Things.f_eq (l1 : List (List AV)) (l2 : List (List AV)) : ref29_Things (AV.sl 3 l1) (AV.sl 3 l2) = (ifB (!decide (((List.length l1 : Int) : Int) = (List.length l2 : Int))) (some (AV.bool false)) (ref29_Things.l0 (AV.sl 3 l1) (AV.sl 3 l2) (AV.int .i64 0))) :=
  (run13 _).trans (by kernel_rfl)
theorem ref29_Things.l0_eq (l1 : List (List AV)) (l2 : List (List AV)) (n3 : Int) : ref29_Things.l0 (AV.sl 3 l1) (AV.sl 3 l2) (AV.int .i64 n3) = (ifB (decide ((n3 : Int) < (List.length l1 : Int))) (idx l1 n3 fun c4 => idx l2 n3 fun c5 => (ref29_Same (AV.agg 3 c4) (AV.agg 3 c5)).bind fun r6 => asB r6 fun b7 => ifB (!b7) (some (AV.bool false)) (ref29_Things.l0 (AV.sl 3 l1) (AV.sl 3 l2) (AV.int .i64 (w64 (n3 + 1))))) (some (AV.bool true))) :=
  (loopAt_eq S 13 d13 [1, 1, 0, 1, 0] _).trans (by kernel_rfl)

/-! treillage/state.Find: function 14 -/
noncomputable def d14 : FD := ⟨(Tryz.f14.body).getD .skip, Tryz.f14.results.toList, 8⟩
theorem run14 (l : List AV) : ωκ S 14 l = runM τ (fun _ => none) (ωκ S) [4] lpκ d14.code (look (argEnv 0 l)) (retV τ d14.rs) :=
  ωκ_run S 14 l d14 rfl (by show (Tryz.prog.funcs[14]?).bind toFD = _; rw [Tryz.func14]; rfl)
theorem state_Find.f_eq (l1 : List (List AV)) (s2 : List UInt8) : state_Find (AV.sl 3 l1) (AV.str s2) = ((slices_IndexFunc__Thing (AV.sl 3 l1) (AV.fn 32 [AV.eptr 1 [AV.str s2] 0])).bind fun r3 => asI .i64 r3 fun n4 => some (AV.int .i64 n4)) :=
  (run14 _).trans (by kernel_rfl)

/-! treillage/treillageref29.Same: function 15 -/
noncomputable def d15 : FD := ⟨(Tryz.f15.body).getD .skip, Tryz.f15.results.toList, 24⟩
theorem run15 (l : List AV) : ωκ S 15 l = runM τ (fun _ => none) (ωκ S) [4] lpκ d15.code (look (argEnv 0 l)) (retV τ d15.rs) :=
  ωκ_run S 15 l d15 rfl (by show (Tryz.prog.funcs[15]?).bind toFD = _; rw [Tryz.func15]; rfl)
theorem ref29_Same.f_eq (c1 : List AV) (c2 : List AV) : ref29_Same (AV.agg 3 c1) (AV.agg 3 c2) = (getC c1 0 fun a3 => asS a3 fun s4 => getC c2 0 fun a5 => asS a5 fun s6 => (ifB (decide ((s4 : List UInt8) = s6)) (getC c1 1 fun a8 => getC c2 1 fun a9 => (ref08_Same (AV.agg 1 [(frz a8)]) (AV.agg 1 [(frz a9)])).bind fun r10 => asB r10 fun b11 => some b11) (some false) : Option Bool).bind fun b7 => (ifB b7 (getC c1 2 fun a13 => asL 1 a13 fun l14 => getC c2 2 fun a15 => asL 1 a15 fun l16 => (ref02_Same (AV.sl 1 l14) (AV.sl 1 l16)).bind fun r17 => asB r17 fun b18 => some b18) (some false) : Option Bool).bind fun b12 => some (AV.bool b12)) :=
  (run15 _).trans (by kernel_rfl)

/-! treillage/state.Right: function 17 -/
noncomputable def d17 : FD := ⟨(Tryz.f17.body).getD .skip, Tryz.f17.results.toList, 37⟩
theorem run17 (l : List AV) : ωκ S 17 l = runM τ ann17 (ωκ S) [2] lpκ d17.code (look (argEnv 0 l)) (retV τ d17.rs) :=
  ωκ_run S 17 l d17 rfl (by show (Tryz.prog.funcs[17]?).bind toFD = _; rw [Tryz.func17]; rfl)
noncomputable def state_Right.l0 (a0 a8 a9 a10 : AV) : Option AV := loopAt S 17 d17 [1, 1, 0, 1, 0] (look [(0, a0), (8, a8), (9, a9), (10, a10)])
theorem state_Right.f_eq (l1 : List (List AV)) : state_Right (AV.sl 3 l1) = (ifB (decide ((256 : Int) < (List.length l1 : Int))) (some (AV.bool false)) (state_Right.l0 (AV.sl 3 l1) (AV.sl 3 l1) (AV.int .i64 (List.length l1 : Int)) (AV.int .i64 0))) :=
  (run17 _).trans (by kernel_rfl)
theorem state_Right.l0_eq (l1 : List (List AV)) (l2 : List (List AV)) (n3 : Int) (n4 : Int) : state_Right.l0 (AV.sl 3 l1) (AV.sl 3 l2) (AV.int .i64 n3) (AV.int .i64 n4) = (ifB (decide ((n4 : Int) < n3)) (idx l2 n4 fun c5 => (state_good (AV.agg 3 c5)).bind fun r6 => asB r6 fun b7 => (ifB (!b7) (some true) ((ifB (decide ((0 : Int) < n4)) (getC c5 0 fun a10 => asS a10 fun s11 => idx l1 (w64 (n4 - 1)) fun c12 => getC c12 0 fun a13 => asS a13 fun s14 => some (bytesLt s11 s14 || decide ((s11 : List UInt8) = s14))) (some false) : Option Bool).bind fun b9 => some b9) : Option Bool).bind fun b8 => ifB b8 (some (AV.bool false)) (state_Right.l0 (AV.sl 3 l1) (AV.sl 3 l2) (AV.int .i64 n3) (AV.int .i64 (w64 (n4 + 1))))) ((state_rings (AV.sl 3 l1)).bind fun r15 => asB r15 fun b16 => some (AV.bool (!b16)))) :=
  (loopAt_eq S 17 d17 [1, 1, 0, 1, 0] _).trans (by kernel_rfl)

/-! treillage/treillageref30.Right: function 18 -/
noncomputable def d18 : FD := ⟨(Tryz.f18.body).getD .skip, Tryz.f18.results.toList, 71⟩
theorem run18 (l : List AV) : ωκ S 18 l = runM τ ann18 (ωκ S) [2] lpκ d18.code (look (argEnv 0 l)) (retV τ d18.rs) :=
  ωκ_run S 18 l d18 rfl (by show (Tryz.prog.funcs[18]?).bind toFD = _; rw [Tryz.func18]; rfl)
noncomputable def ref30_Right.l0 (a0 a3 : AV) : Option AV := loopAt S 18 d18 [1, 0, 1, 0] (look [(0, a0), (3, a3)])
theorem ref30_Right.f_eq (l1 : List (List AV)) : ref30_Right (AV.sl 3 l1) = (ref30_Right.l0 (AV.sl 3 l1) (AV.int .i64 0)) :=
  (run18 _).trans (by kernel_rfl)
theorem ref30_Right.l0_eq (l1 : List (List AV)) (n2 : Int) : ref30_Right.l0 (AV.sl 3 l1) (AV.int .i64 n2) = (ifB (decide ((n2 : Int) < (List.length l1 : Int))) (idx l1 n2 fun c3 => getC c3 1 fun a4 => (ref11_One (AV.agg 1 [(frz a4)])).bind fun r5 => asT2 r5 fun a6 a7 => asC 8 a6 fun c8 => asI .i64 a7 fun n9 => (ifB (!decide ((n9 : Int) = 0)) (some true) (getC c8 0 fun a11 => asI .i64 a11 fun n12 => some (!decide ((n12 : Int) = 4))) : Option Bool).bind fun b10 => (ifB b10 (some true) (getC c3 1 fun a14 => (ref11_Settled (AV.agg 1 [(frz a14)])).bind fun r15 => asB r15 fun b16 => some (!b16)) : Option Bool).bind fun b13 => (ifB b13 (some true) (getC c3 2 fun a18 => asL 1 a18 fun l19 => (ref02_Rising (AV.sl 1 l19)).bind fun r20 => asB r20 fun b21 => some (!b21)) : Option Bool).bind fun b17 => (ifB b17 (some true) (getC c3 2 fun a23 => asL 1 a23 fun l24 => getC c3 0 fun a25 => asS a25 fun s26 => (ref17_Has (AV.sl 1 l24) (AV.str s26)).bind fun r27 => asB r27 fun b28 => some b28) : Option Bool).bind fun b22 => ifB b22 (some (AV.bool false)) (ref30_Right.l0 (AV.sl 3 l1) (AV.int .i64 (w64 (n2 + 1))))) ((ifB (decide ((256 : Int) < (List.length l1 : Int))) (some true) ((ref30_Names (AV.sl 3 l1)).bind fun r30 => asL 1 r30 fun l31 => (ref02_Rising (AV.sl 1 l31)).bind fun r32 => asB r32 fun b33 => some (!b33)) : Option Bool).bind fun b29 => ifB b29 (some (AV.bool false)) ((ref30_Names (AV.sl 3 l1)).bind fun r34 => asL 1 r34 fun l35 => (ref30_Lines (AV.sl 3 l1)).bind fun r36 => asL 2 r36 fun l37 => (ref17_Order (AV.sl 1 l35) (AV.sl 2 l37)).bind fun r38 => asT2 r38 fun a39 a40 => asL 1 a39 fun l41 => asL 1 a40 fun l42 => some (AV.bool (decide (((List.length l42 : Int) : Int) = 0)))))) :=
  (loopAt_eq S 18 d18 [1, 0, 1, 0] _).trans (by kernel_rfl)

/-! treillage/state.Same: function 19 -/
noncomputable def d19 : FD := ⟨(Tryz.f19.body).getD .skip, Tryz.f19.results.toList, 8⟩
theorem run19 (l : List AV) : ωκ S 19 l = runM τ (fun _ => none) (ωκ S) [4] lpκ d19.code (look (argEnv 0 l)) (retV τ d19.rs) :=
  ωκ_run S 19 l d19 rfl (by show (Tryz.prog.funcs[19]?).bind toFD = _; rw [Tryz.func19]; rfl)
theorem state_Same.f_eq (l1 : List (List AV)) (l2 : List (List AV)) : state_Same (AV.sl 3 l1) (AV.sl 3 l2) = ((slices_EqualFunc__Thing (AV.sl 3 l1) (AV.sl 3 l2) (AV.fn 46 [])).bind fun r3 => asB r3 fun b4 => some (AV.bool b4)) :=
  (run19 _).trans (by kernel_rfl)
end Go.Proofs.YtffojfcinkihnaaGreatDoor.Abs
/- What the code comes to, function by function (printed by gen.py). -/
set_option linter.unusedVariables false
set_option linter.unusedSimpArgs false
set_option linter.unusedSectionVars false
set_option linter.deprecated false
set_option linter.unnecessarySimpa false
namespace Go.Proofs.YtffojfcinkihnaaGreatDoor.Abs
set_option linter.unusedVariables false
set_option maxRecDepth 100000

/-! treillage/treillageref30.Find: function 20 -/
noncomputable def d20 : FD := ⟨(Tryz.f20.body).getD .skip, Tryz.f20.results.toList, 20⟩
theorem run20 (l : List AV) : ωκ S 20 l = runM τ ann20 (ωκ S) [4] lpκ d20.code (look (argEnv 0 l)) (retV τ d20.rs) :=
  ωκ_run S 20 l d20 rfl (by show (Tryz.prog.funcs[20]?).bind toFD = _; rw [Tryz.func20]; rfl)
noncomputable def ref30_Find.l0 (a0 a1 a5 : AV) : Option AV := loopAt S 20 d20 [1, 0, 1, 0] (look [(0, a0), (1, a1), (5, a5)])
theorem ref30_Find.f_eq (l1 : List (List AV)) (s2 : List UInt8) : ref30_Find (AV.sl 3 l1) (AV.str s2) = (ref30_Find.l0 (AV.sl 3 l1) (AV.str s2) (AV.int .i64 0)) :=
  (run20 _).trans (by kernel_rfl)
theorem ref30_Find.l0_eq (l1 : List (List AV)) (s2 : List UInt8) (n3 : Int) : ref30_Find.l0 (AV.sl 3 l1) (AV.str s2) (AV.int .i64 n3) = (ifB (decide ((n3 : Int) < (List.length l1 : Int))) (idx l1 n3 fun c4 => getC c4 0 fun a5 => asS a5 fun s6 => ifB (decide ((s6 : List UInt8) = s2)) (some (AV.int .i64 n3)) (ref30_Find.l0 (AV.sl 3 l1) (AV.str s2) (AV.int .i64 (w64 (n3 + 1))))) (some (AV.int .i64 (-1)))) :=
  (loopAt_eq S 20 d20 [1, 0, 1, 0] _).trans (by kernel_rfl)

/-! treillage/treillagelaw09.Few: function 25 -/
noncomputable def d25 : FD := ⟨(Tryz.f25.body).getD .skip, Tryz.f25.results.toList, 10⟩
theorem run25 (l : List AV) : ωκ S 25 l = runM τ (fun _ => none) (ωκ S) [2] lpκ d25.code (look (argEnv 0 l)) (retV τ d25.rs) :=
  ωκ_run S 25 l d25 rfl (by show (Tryz.prog.funcs[25]?).bind toFD = _; rw [Tryz.func25]; rfl)
theorem law09_Few.f_eq (c1 : List AV) : law09_Few (AV.agg 1 c1) = ((law08_Few (AV.agg 1 c1)).bind fun r2 => asB r2 fun b3 => (ifB b3 ((ref08_Weight (AV.agg 1 c1)).bind fun r5 => asI .i64 r5 fun n6 => some (decide ((n6 : Int) ≤ 40))) (some false) : Option Bool).bind fun b4 => some (AV.bool b4)) :=
  (run25 _).trans (by kernel_rfl)

/-! treillage/treillagelaw08.Plain: function 27 -/
noncomputable def d27 : FD := ⟨(Tryz.f27.body).getD .skip, Tryz.f27.results.toList, 59⟩
theorem run27 (l : List AV) : ωκ S 27 l = runM τ ann27 (ωκ S) [] lpκ d27.code (look (argEnv 0 l)) (retV τ d27.rs) :=
  ωκ_run S 27 l d27 rfl (by show (Tryz.prog.funcs[27]?).bind toFD = _; rw [Tryz.func27]; rfl)
noncomputable def law08_Plain.l0 (a1 a2 a3 a4 : AV) : Option AV := loopAt S 27 d27 [1, 1, 0, 1, 0] (look [(1, a1), (2, a2), (3, a3), (4, a4)])
noncomputable def law08_Plain.l1 (a1 a2 a3 a4 a5 a6 : AV) : Option AV := loopAt S 27 d27 [1, 1, 0, 1, 0, 0, 1, 0, 0, 1, 1, 0, 1, 0] (look [(1, a1), (2, a2), (3, a3), (4, a4), (5, a5), (6, a6)])
theorem law08_Plain.f_eq (c1 : List AV) : law08_Plain (AV.agg 1 c1) = (law08_Plain.l0 (AV.boxv 1 c1 []) (AV.boxv 1 [AV.sl 8 []] [(0, AV.own 8 [])]) (AV.boxv 1 [AV.sl 8 []] [(0, AV.own 8 [])]) (AV.int .i64 0)) :=
  (run27 _).trans (by kernel_rfl)
theorem law08_Plain.l0_eq (c1 : List AV) (l2 : List (List AV)) (l3 : List (List AV)) (l4 : List (List AV)) (l5 : List (List AV)) (n6 : Int) : law08_Plain.l0 (AV.boxv 1 c1 []) (AV.boxv 1 [AV.sl 8 l2] [(0, AV.own 8 l3)]) (AV.boxv 1 [AV.sl 8 l4] [(0, AV.own 8 l5)]) (AV.int .i64 n6) = (getC c1 0 fun a7 => asL 8 a7 fun l8 => ifB (decide ((n6 : Int) < (List.length l8 : Int))) (getC c1 0 fun a9 => asL 8 a9 fun l10 => idx l10 n6 fun c11 => law08_Plain.l1 (AV.boxv 1 c1 []) (AV.boxv 1 [AV.sl 8 l2] [(0, AV.own 8 l3)]) (AV.boxv 1 [AV.sl 8 l4] [(0, AV.own 8 l5)]) (AV.int .i64 n6) (AV.boxv 8 c11 [(7, AV.own 2 [])]) (AV.int .i64 0)) (some (AV.agg 1 [AV.sl 8 l5]))) :=
  (loopAt_eq S 27 d27 [1, 1, 0, 1, 0] _).trans (by kernel_rfl)
theorem law08_Plain.l1_eq (c1 : List AV) (l2 : List (List AV)) (l3 : List (List AV)) (l4 : List (List AV)) (l5 : List (List AV)) (n6 : Int) (c7 : List AV) (l8 : List (List AV)) (n9 : Int) : law08_Plain.l1 (AV.boxv 1 c1 []) (AV.boxv 1 [AV.sl 8 l2] [(0, AV.own 8 l3)]) (AV.boxv 1 [AV.sl 8 l4] [(0, AV.own 8 l5)]) (AV.int .i64 n6) (AV.boxv 8 c7 [(7, AV.own 2 l8)]) (AV.int .i64 n9) = (getC c1 0 fun a10 => asL 8 a10 fun l11 => idx l11 n6 fun c12 => getC c12 7 fun a13 => asL 2 a13 fun l14 => ifB (decide ((n9 : Int) < (List.length l14 : Int))) (getC c1 0 fun a15 => asL 8 a15 fun l16 => idx l16 n6 fun c17 => getC c17 7 fun a18 => asL 2 a18 fun l19 => idx l19 n9 fun c20 => getC c20 0 fun a21 => asS a21 fun s22 => getC c20 1 fun a23 => (law08_Plain (AV.agg 1 [(frz a23)])).bind fun r24 => asC 1 r24 fun c25 => guardK (Nat.ble (List.length l8 + List.length ([(splice [AV.str s22, AV.sl 8 []] 1 c25)])) lim) <| law08_Plain.l1 (AV.boxv 1 c1 []) (AV.boxv 1 [AV.sl 8 l2] [(0, AV.own 8 l3)]) (AV.boxv 1 [AV.sl 8 l4] [(0, AV.own 8 l5)]) (AV.int .i64 n6) (AV.boxv 8 c7 [(7, AV.own 2 (l8 ++ ([(splice [AV.str s22, AV.sl 8 []] 1 c25)])))]) (AV.int .i64 (w64 (n9 + 1)))) (guardK (Nat.ble (List.length l5 + List.length [(List.set c7 7 (AV.sl 2 l8))]) lim) <| law08_Plain.l0 (AV.boxv 1 c1 []) (AV.boxv 1 [AV.sl 8 l2] [(0, AV.own 8 l3)]) (AV.boxv 1 [AV.sl 8 l4] [(0, AV.own 8 (l5 ++ [(List.set c7 7 (AV.sl 2 l8))]))]) (AV.int .i64 (w64 (n6 + 1))))) :=
  (loopAt_eq S 27 d27 [1, 1, 0, 1, 0, 0, 1, 0, 0, 1, 1, 0, 1, 0] _).trans (by kernel_rfl)

/-! slices.IndexFunc[[]treillage/api.Thing,treillage/api.Thing]: function 28 -/
noncomputable def d28 : FD := ⟨(Tryz.f28.body).getD .skip, Tryz.f28.results.toList, 19⟩
theorem run28 (l : List AV) : ωκ S 28 l = runM τ ann28 (ωκ S) [4] lpκ d28.code (look (argEnv 0 l)) (retV τ d28.rs) :=
  ωκ_run S 28 l d28 rfl (by show (Tryz.prog.funcs[28]?).bind toFD = _; rw [Tryz.func28]; rfl)
noncomputable def slices_IndexFunc__Thing.l0 (a0 a1 a7 a8 : AV) : Option AV := loopAt S 28 d28 [1, 0, 1, 0] (look [(0, a0), (1, a1), (7, a7), (8, a8)])
theorem slices_IndexFunc__Thing.f_eq (l1 : List (List AV)) (f2 : Nat) (c3 : List AV) : slices_IndexFunc__Thing (AV.sl 3 l1) (AV.fn f2 c3) = (slices_IndexFunc__Thing.l0 (AV.sl 3 l1) (AV.fn f2 c3) (AV.int .i64 (List.length l1 : Int)) (AV.int .i64 0)) :=
  (run28 _).trans (by kernel_rfl)
theorem slices_IndexFunc__Thing.l0_eq (l1 : List (List AV)) (f2 : Nat) (c3 : List AV) (n4 : Int) (n5 : Int) : slices_IndexFunc__Thing.l0 (AV.sl 3 l1) (AV.fn f2 c3) (AV.int .i64 n4) (AV.int .i64 n5) = (ifB (decide ((n5 : Int) < n4)) (idx l1 n5 fun c6 => (ωκ S f2 ([AV.agg 3 c6] ++ c3)).bind fun r7 => asB r7 fun b8 => ifB b8 (some (AV.int .i64 n5)) (slices_IndexFunc__Thing.l0 (AV.sl 3 l1) (AV.fn f2 c3) (AV.int .i64 n4) (AV.int .i64 (w64 (n5 + 1))))) (some (AV.int .i64 (-1)))) :=
  (loopAt_eq S 28 d28 [1, 0, 1, 0] _).trans (by kernel_rfl)

/-! treillage/state.Find$1: function 32 -/
noncomputable def d32 : FD := ⟨(Tryz.f32.body).getD .skip, Tryz.f32.results.toList, 8⟩
theorem run32 (l : List AV) : ωκ S 32 l = runM τ (fun _ => none) (ωκ S) [3] lpκ d32.code (look (argEnv 0 l)) (retV τ d32.rs) :=
  ωκ_run S 32 l d32 rfl (by show (Tryz.prog.funcs[32]?).bind toFD = _; rw [Tryz.func32]; rfl)
theorem state_Find_1.f_eq (c1 : List AV) (s2 : List UInt8) : state_Find_1 (AV.agg 3 c1) (AV.eptr 1 [AV.str s2] 0) = (getC c1 0 fun a3 => asS a3 fun s4 => some (AV.bool (decide ((s4 : List UInt8) = s2)))) :=
  (run32 _).trans (by kernel_rfl)

/-! treillage/treillageref08.Same: function 33 -/
noncomputable def d33 : FD := ⟨(Tryz.f33.body).getD .skip, Tryz.f33.results.toList, 9⟩
theorem run33 (l : List AV) : ωκ S 33 l = runM τ (fun _ => none) (ωκ S) [4] lpκ d33.code (look (argEnv 0 l)) (retV τ d33.rs) :=
  ωκ_run S 33 l d33 rfl (by show (Tryz.prog.funcs[33]?).bind toFD = _; rw [Tryz.func33]; rfl)
theorem ref08_Same.f_eq (c1 : List AV) (c2 : List AV) : ref08_Same (AV.agg 1 c1) (AV.agg 1 c2) = ((ref08_Compare (AV.agg 1 c1) (AV.agg 1 c2)).bind fun r3 => asI .i64 r3 fun n4 => some (AV.bool (decide ((n4 : Int) = 0)))) :=
  (run33 _).trans (by kernel_rfl)

/-! treillage/treillageref02.Same: function 34 -/
noncomputable def d34 : FD := ⟨(Tryz.f34.body).getD .skip, Tryz.f34.results.toList, 26⟩
theorem run34 (l : List AV) : ωκ S 34 l = runM τ ann34 (ωκ S) [4] lpκ d34.code (look (argEnv 0 l)) (retV τ d34.rs) :=
  ωκ_run S 34 l d34 rfl (by show (Tryz.prog.funcs[34]?).bind toFD = _; rw [Tryz.func34]; rfl)
noncomputable def ref02_Same.l0 (a0 a1 a5 : AV) : Option AV := loopAt S 34 d34 [1, 1, 0, 1, 0] (look [(0, a0), (1, a1), (5, a5)])
theorem ref02_Same.f_eq (l1 : List (List AV)) (l2 : List (List AV)) : ref02_Same (AV.sl 1 l1) (AV.sl 1 l2) = (ifB (!decide (((List.length l1 : Int) : Int) = (List.length l2 : Int))) (some (AV.bool false)) (ref02_Same.l0 (AV.sl 1 l1) (AV.sl 1 l2) (AV.int .i64 0))) :=
  (run34 _).trans (by kernel_rfl)
theorem ref02_Same.l0_eq (l1 : List (List AV)) (l2 : List (List AV)) (n3 : Int) : ref02_Same.l0 (AV.sl 1 l1) (AV.sl 1 l2) (AV.int .i64 n3) = (ifB (decide ((n3 : Int) < (List.length l1 : Int))) (idx l1 n3 fun c4 => getC c4 0 fun a5 => asS a5 fun s6 => idx l2 n3 fun c7 => getC c7 0 fun a8 => asS a8 fun s9 => ifB (!decide ((s6 : List UInt8) = s9)) (some (AV.bool false)) (ref02_Same.l0 (AV.sl 1 l1) (AV.sl 1 l2) (AV.int .i64 (w64 (n3 + 1))))) (some (AV.bool true))) :=
  (loopAt_eq S 34 d34 [1, 1, 0, 1, 0] _).trans (by kernel_rfl)
end Go.Proofs.YtffojfcinkihnaaGreatDoor.Abs
/- What the code comes to, function by function (printed by gen.py). -/
set_option linter.unusedVariables false
set_option linter.unusedSimpArgs false
set_option linter.unusedSectionVars false
set_option linter.deprecated false
set_option linter.unnecessarySimpa false
namespace Go.Proofs.YtffojfcinkihnaaGreatDoor.Abs
set_option linter.unusedVariables false
set_option maxRecDepth 100000

/-! treillage/state.good: function 36 -/
noncomputable def d36 : FD := ⟨(Tryz.f36.body).getD .skip, Tryz.f36.results.toList, 41⟩
theorem run36 (l : List AV) : ωκ S 36 l = runM τ (fun _ => none) (ωκ S) [2] lpκ d36.code (look (argEnv 0 l)) (retV τ d36.rs) :=
  ωκ_run S 36 l d36 rfl (by show (Tryz.prog.funcs[36]?).bind toFD = _; rw [Tryz.func36]; rfl)
theorem state_good.f_eq (c1 : List AV) : state_good (AV.agg 3 c1) = (getC c1 1 fun a2 => (fact_One (AV.agg 1 [(frz a2)])).bind fun r3 => asT2 r3 fun a4 a5 => asC 8 a4 fun c6 => asI .i64 a5 fun n7 => getC c1 0 fun a8 => asS a8 fun s9 => (name_Right (AV.str s9)).bind fun r10 => asB r10 fun b11 => (ifB b11 (some (decide ((n7 : Int) = 0))) (some false) : Option Bool).bind fun b12 => (ifB b12 (getC c6 0 fun a14 => asI .i64 a14 fun n15 => some (decide ((n15 : Int) = 4))) (some false) : Option Bool).bind fun b13 => (ifB b13 (getC c1 1 fun a17 => (fact_Settled (AV.agg 1 [(frz a17)])).bind fun r18 => asB r18 fun b19 => some b19) (some false) : Option Bool).bind fun b16 => (ifB b16 (getC c1 2 fun a21 => asL 1 a21 fun l22 => (name_Rising (AV.sl 1 l22)).bind fun r23 => asB r23 fun b24 => some b24) (some false) : Option Bool).bind fun b20 => (ifB b20 (getC c1 2 fun a26 => asL 1 a26 fun l27 => getC c1 0 fun a28 => asS a28 fun s29 => (slices_Contains__string (AV.sl 1 l27) (AV.str s29)).bind fun r30 => asB r30 fun b31 => some (!b31)) (some false) : Option Bool).bind fun b25 => some (AV.bool b25)) :=
  (run36 _).trans (by kernel_rfl)

/-! treillage/treillageref11.One: function 38 -/
noncomputable def d38 : FD := ⟨(Tryz.f38.body).getD .skip, Tryz.f38.results.toList, 30⟩
theorem run38 (l : List AV) : ωκ S 38 l = runM τ (fun _ => none) (ωκ S) [3] lpκ d38.code (look (argEnv 0 l)) (retV τ d38.rs) :=
  ωκ_run S 38 l d38 rfl (by show (Tryz.prog.funcs[38]?).bind toFD = _; rw [Tryz.func38]; rfl)
theorem ref11_One.f_eq (c1 : List AV) : ref11_One (AV.agg 1 c1) = ((ref09_Right (AV.agg 1 c1)).bind fun r2 => asB r2 fun b3 => ifB (!b3) (some (.tup [AV.agg 8 [AV.int .i64 0, AV.int .i64 0, AV.int .i64 0, AV.str [], AV.bool false, AV.bool false, AV.bool false, AV.sl 2 []], AV.int .i64 1])) (getC c1 0 fun a4 => asL 8 a4 fun l5 => ifB (decide (((List.length l5 : Int) : Int) = 0)) (some (.tup [AV.agg 8 [AV.int .i64 0, AV.int .i64 0, AV.int .i64 0, AV.str [], AV.bool false, AV.bool false, AV.bool false, AV.sl 2 []], AV.int .i64 31])) (getC c1 0 fun a6 => asL 8 a6 fun l7 => (ifB (decide ((1 : Int) < (List.length l7 : Int))) (some true) (getC c1 0 fun a9 => asL 8 a9 fun l10 => idx l10 0 fun c11 => getC c11 0 fun a12 => asI .i64 a12 fun n13 => some (decide ((n13 : Int) = 5))) : Option Bool).bind fun b8 => ifB b8 (some (.tup [AV.agg 8 [AV.int .i64 0, AV.int .i64 0, AV.int .i64 0, AV.str [], AV.bool false, AV.bool false, AV.bool false, AV.sl 2 []], AV.int .i64 28])) (getC c1 0 fun a14 => asL 8 a14 fun l15 => idx l15 0 fun c16 => some (.tup [AV.agg 8 c16, AV.int .i64 0]))))) :=
  (run38 _).trans (by kernel_rfl)

/-! treillage/treillageref11.Settled: function 39 -/
noncomputable def d39 : FD := ⟨(Tryz.f39.body).getD .skip, Tryz.f39.results.toList, 9⟩
theorem run39 (l : List AV) : ωκ S 39 l = runM τ (fun _ => none) (ωκ S) [2] lpκ d39.code (look (argEnv 0 l)) (retV τ d39.rs) :=
  ωκ_run S 39 l d39 rfl (by show (Tryz.prog.funcs[39]?).bind toFD = _; rw [Tryz.func39]; rfl)
theorem ref11_Settled.f_eq (c1 : List AV) : ref11_Settled (AV.agg 1 c1) = ((ref09_Right (AV.agg 1 c1)).bind fun r2 => asB r2 fun b3 => (ifB b3 ((ref11_settled (AV.agg 1 c1) (AV.bool false)).bind fun r5 => asB r5 fun b6 => some b6) (some false) : Option Bool).bind fun b4 => some (AV.bool b4)) :=
  (run39 _).trans (by kernel_rfl)

/-! treillage/treillageref02.Rising: function 40 -/
noncomputable def d40 : FD := ⟨(Tryz.f40.body).getD .skip, Tryz.f40.results.toList, 32⟩
theorem run40 (l : List AV) : ωκ S 40 l = runM τ ann40 (ωκ S) [2] lpκ d40.code (look (argEnv 0 l)) (retV τ d40.rs) :=
  ωκ_run S 40 l d40 rfl (by show (Tryz.prog.funcs[40]?).bind toFD = _; rw [Tryz.func40]; rfl)
noncomputable def ref02_Rising.l0 (a0 a3 : AV) : Option AV := loopAt S 40 d40 [1, 0, 1, 0] (look [(0, a0), (3, a3)])
theorem ref02_Rising.f_eq (l1 : List (List AV)) : ref02_Rising (AV.sl 1 l1) = (ref02_Rising.l0 (AV.sl 1 l1) (AV.int .i64 0)) :=
  (run40 _).trans (by kernel_rfl)
theorem ref02_Rising.l0_eq (l1 : List (List AV)) (n2 : Int) : ref02_Rising.l0 (AV.sl 1 l1) (AV.int .i64 n2) = (ifB (decide ((n2 : Int) < (List.length l1 : Int))) (idx l1 n2 fun c3 => getC c3 0 fun a4 => asS a4 fun s5 => (ref02_Right (AV.str s5)).bind fun r6 => asB r6 fun b7 => (ifB (!b7) (some true) ((ifB (decide ((0 : Int) < n2)) (idx l1 (w64 (n2 - 1)) fun c10 => getC c10 0 fun a11 => asS a11 fun s12 => idx l1 n2 fun c13 => getC c13 0 fun a14 => asS a14 fun s15 => some (!bytesLt s12 s15)) (some false) : Option Bool).bind fun b9 => some b9) : Option Bool).bind fun b8 => ifB b8 (some (AV.bool false)) (ref02_Rising.l0 (AV.sl 1 l1) (AV.int .i64 (w64 (n2 + 1))))) (some (AV.bool true))) :=
  (loopAt_eq S 40 d40 [1, 0, 1, 0] _).trans (by kernel_rfl)

/-! treillage/treillageref17.Has: function 41 -/
noncomputable def d41 : FD := ⟨(Tryz.f41.body).getD .skip, Tryz.f41.results.toList, 18⟩
theorem run41 (l : List AV) : ωκ S 41 l = runM τ ann41 (ωκ S) [4] lpκ d41.code (look (argEnv 0 l)) (retV τ d41.rs) :=
  ωκ_run S 41 l d41 rfl (by show (Tryz.prog.funcs[41]?).bind toFD = _; rw [Tryz.func41]; rfl)
noncomputable def ref17_Has.l0 (a0 a1 a5 : AV) : Option AV := loopAt S 41 d41 [1, 0, 1, 0] (look [(0, a0), (1, a1), (5, a5)])
theorem ref17_Has.f_eq (l1 : List (List AV)) (s2 : List UInt8) : ref17_Has (AV.sl 1 l1) (AV.str s2) = (ref17_Has.l0 (AV.sl 1 l1) (AV.str s2) (AV.int .i64 0)) :=
  (run41 _).trans (by kernel_rfl)
theorem ref17_Has.l0_eq (l1 : List (List AV)) (s2 : List UInt8) (n3 : Int) : ref17_Has.l0 (AV.sl 1 l1) (AV.str s2) (AV.int .i64 n3) = (ifB (decide ((n3 : Int) < (List.length l1 : Int))) (idx l1 n3 fun c4 => getC c4 0 fun a5 => asS a5 fun s6 => ifB (decide ((s6 : List UInt8) = s2)) (some (AV.bool true)) (ref17_Has.l0 (AV.sl 1 l1) (AV.str s2) (AV.int .i64 (w64 (n3 + 1))))) (some (AV.bool false))) :=
  (loopAt_eq S 41 d41 [1, 0, 1, 0] _).trans (by kernel_rfl)

/-! treillage/treillageref30.Names: function 42 -/
noncomputable def d42 : FD := ⟨(Tryz.f42.body).getD .skip, Tryz.f42.results.toList, 20⟩
theorem run42 (l : List AV) : ωκ S 42 l = runM τ ann42 (ωκ S) [2] lpκ d42.code (look (argEnv 0 l)) (retV τ d42.rs) :=
  ωκ_run S 42 l d42 rfl (by show (Tryz.prog.funcs[42]?).bind toFD = _; rw [Tryz.func42]; rfl)
noncomputable def ref30_Names.l0 (a0 a3 a4 : AV) : Option AV := loopAt S 42 d42 [1, 1, 0, 1, 0] (look [(0, a0), (3, a3), (4, a4)])
theorem ref30_Names.f_eq (l1 : List (List AV)) : ref30_Names (AV.sl 3 l1) = (ref30_Names.l0 (AV.sl 3 l1) (AV.own 1 []) (AV.int .i64 0)) :=
  (run42 _).trans (by kernel_rfl)
theorem ref30_Names.l0_eq (l1 : List (List AV)) (l2 : List (List AV)) (n3 : Int) : ref30_Names.l0 (AV.sl 3 l1) (AV.own 1 l2) (AV.int .i64 n3) = (ifB (decide ((n3 : Int) < (List.length l1 : Int))) (idx l1 n3 fun c4 => getC c4 0 fun a5 => asS a5 fun s6 => guardK (Nat.ble (List.length l2 + List.length ([[AV.str s6]])) lim) <| ref30_Names.l0 (AV.sl 3 l1) (AV.own 1 (l2 ++ ([[AV.str s6]]))) (AV.int .i64 (w64 (n3 + 1)))) (some (AV.own 1 l2))) :=
  (loopAt_eq S 42 d42 [1, 1, 0, 1, 0] _).trans (by kernel_rfl)

/-! treillage/treillageref17.Order: function 43 -/
noncomputable def d43 : FD := ⟨(Tryz.f43.body).getD .skip, Tryz.f43.results.toList, 91⟩
theorem run43 (l : List AV) : ωκ S 43 l = runM τ ann43 (ωκ S) [4, 5] lpκ d43.code (look (argEnv 0 l)) (retV τ d43.rs) :=
  ωκ_run S 43 l d43 rfl (by show (Tryz.prog.funcs[43]?).bind toFD = _; rw [Tryz.func43]; rfl)
noncomputable def ref17_Order.l0 (a0 a1 a6 a7 : AV) : Option AV := loopAt S 43 d43 [1, 1, 0, 1, 0] (look [(0, a0), (1, a1), (6, a6), (7, a7)])
noncomputable def ref17_Order.l1 (a0 a1 a6 a7 a8 a9 a10 : AV) : Option AV := loopAt S 43 d43 [1, 1, 0, 1, 0, 0, 1, 0, 0, 1, 1, 0, 1, 0] (look [(0, a0), (1, a1), (6, a6), (7, a7), (8, a8), (9, a9), (10, a10)])
noncomputable def ref17_Order.l2 (a0 a6 a14 a15 : AV) : Option AV := loopAt S 43 d43 [1, 1, 1, 1, 0, 1, 0] (look [(0, a0), (6, a6), (14, a14), (15, a15)])
noncomputable def ref17_Order.l3 (a0 a1 a6 a7 a8 a9 a10 a11 a12 a13 : AV) : Option AV := loopAt S 43 d43 [1, 1, 0, 1, 0, 0, 1, 0, 0, 1, 1, 0, 1, 0, 0, 1, 0, 0, 1, 1, 1, 0, 1, 0] (look [(0, a0), (1, a1), (6, a6), (7, a7), (8, a8), (9, a9), (10, a10), (11, a11), (12, a12), (13, a13)])
theorem ref17_Order.f_eq (l1 : List (List AV)) (l2 : List (List AV)) : ref17_Order (AV.sl 1 l1) (AV.sl 2 l2) = (ref17_Order.l0 (AV.sl 1 l1) (AV.sl 2 l2) (AV.own 1 []) (AV.int .i64 0)) :=
  (run43 _).trans (by kernel_rfl)
theorem ref17_Order.l0_eq (l1 : List (List AV)) (l2 : List (List AV)) (l3 : List (List AV)) (n4 : Int) : ref17_Order.l0 (AV.sl 1 l1) (AV.sl 2 l2) (AV.own 1 l3) (AV.int .i64 n4) = (ifB (decide ((n4 : Int) < (List.length l1 : Int))) (ref17_Order.l1 (AV.sl 1 l1) (AV.sl 2 l2) (AV.own 1 l3) (AV.int .i64 n4) (AV.str []) (AV.bool false) (AV.int .i64 0)) (ref17_Order.l2 (AV.sl 1 l1) (AV.own 1 l3) (AV.own 1 []) (AV.int .i64 0))) :=
  (loopAt_eq S 43 d43 [1, 1, 0, 1, 0] _).trans (by kernel_rfl)
theorem ref17_Order.l1_eq (l1 : List (List AV)) (l2 : List (List AV)) (l3 : List (List AV)) (n4 : Int) (s5 : List UInt8) (n6 : Int) : ref17_Order.l1 (AV.sl 1 l1) (AV.sl 2 l2) (AV.own 1 l3) (AV.int .i64 n4) (AV.str s5) (AV.bool false) (AV.int .i64 n6) = ((ifB (decide ((n6 : Int) < (List.length l1 : Int))) (some true) (some false) : Option Bool).bind fun b7 => ifB b7 (idx l1 n6 fun c8 => getC c8 0 fun a9 => asS a9 fun s10 => (ref17_Has (AV.sl 1 l3) (AV.str s10)).bind fun r11 => asB r11 fun b12 => ifB b12 (ref17_Order.l1 (AV.sl 1 l1) (AV.sl 2 l2) (AV.own 1 l3) (AV.int .i64 n4) (AV.str s5) (AV.bool false) (AV.int .i64 (w64 (n6 + 1)))) (idx l1 n6 fun c13 => getC c13 0 fun a14 => asS a14 fun s15 => (ref17_To (AV.sl 2 l2) (AV.str s15)).bind fun r16 => asL 1 r16 fun l17 => ref17_Order.l3 (AV.sl 1 l1) (AV.sl 2 l2) (AV.own 1 l3) (AV.int .i64 n4) (AV.str s5) (AV.bool false) (AV.int .i64 n6) (AV.bool true) (AV.sl 1 l17) (AV.int .i64 0))) (ref17_Order.l0 (AV.sl 1 l1) (AV.sl 2 l2) (AV.own 1 l3) (AV.int .i64 (w64 (n4 + 1))))) :=
  (loopAt_eq S 43 d43 [1, 1, 0, 1, 0, 0, 1, 0, 0, 1, 1, 0, 1, 0] _).trans (by kernel_rfl)
theorem ref17_Order.l2_eq (l1 : List (List AV)) (l2 : List (List AV)) (l3 : List (List AV)) (n4 : Int) : ref17_Order.l2 (AV.sl 1 l1) (AV.own 1 l2) (AV.own 1 l3) (AV.int .i64 n4) = (ifB (decide ((n4 : Int) < (List.length l1 : Int))) (idx l1 n4 fun c5 => getC c5 0 fun a6 => asS a6 fun s7 => (ref17_Has (AV.sl 1 l2) (AV.str s7)).bind fun r8 => asB r8 fun b9 => ifB (!b9) (idx l1 n4 fun c10 => getC c10 0 fun a11 => asS a11 fun s12 => guardK (Nat.ble (List.length l3 + List.length ([[AV.str s12]])) lim) <| ref17_Order.l2 (AV.sl 1 l1) (AV.own 1 l2) (AV.own 1 (l3 ++ ([[AV.str s12]]))) (AV.int .i64 (w64 (n4 + 1)))) (ref17_Order.l2 (AV.sl 1 l1) (AV.own 1 l2) (AV.own 1 l3) (AV.int .i64 (w64 (n4 + 1))))) (some (.tup [AV.own 1 l2, AV.own 1 l3]))) :=
  (loopAt_eq S 43 d43 [1, 1, 1, 1, 0, 1, 0] _).trans (by kernel_rfl)
theorem ref17_Order.l3_eq (l1 : List (List AV)) (l2 : List (List AV)) (l3 : List (List AV)) (n4 : Int) (s5 : List UInt8) (n6 : Int) (l7 : List (List AV)) (n8 : Int) : ref17_Order.l3 (AV.sl 1 l1) (AV.sl 2 l2) (AV.own 1 l3) (AV.int .i64 n4) (AV.str s5) (AV.bool false) (AV.int .i64 n6) (AV.bool true) (AV.sl 1 l7) (AV.int .i64 n8) = (ifB (decide ((n8 : Int) < (List.length l7 : Int))) ((idx l7 n8 fun c10 => getC c10 0 fun a11 => asS a11 fun s12 => (ref17_Has (AV.sl 1 l3) (AV.str s12)).bind fun r13 => asB r13 fun b14 => some b14 : Option Bool).bind fun b9 => ref17_Order.l3 (AV.sl 1 l1) (AV.sl 2 l2) (AV.own 1 l3) (AV.int .i64 n4) (AV.str s5) (AV.bool false) (AV.int .i64 n6) (AV.bool b9) (AV.sl 1 l7) (AV.int .i64 (w64 (n8 + 1)))) (idx l1 n6 fun c15 => getC c15 0 fun a16 => asS a16 fun s17 => ref17_Order.l1 (AV.sl 1 l1) (AV.sl 2 l2) (AV.own 1 l3) (AV.int .i64 n4) (AV.str s17) (AV.bool true) (AV.int .i64 (w64 (n6 + 1))))) :=
  (loopAt_eq S 43 d43 [1, 1, 0, 1, 0, 0, 1, 0, 0, 1, 1, 0, 1, 0, 0, 1, 0, 0, 1, 1, 1, 0, 1, 0] _).trans (by kernel_rfl)
theorem ref17_Order.l3_eq2 (l1 : List (List AV)) (l2 : List (List AV)) (l3 : List (List AV)) (n4 : Int) (s5 : List UInt8) (n6 : Int) (b7 : Bool) (l8 : List (List AV)) (n9 : Int) : ref17_Order.l3 (AV.sl 1 l1) (AV.sl 2 l2) (AV.own 1 l3) (AV.int .i64 n4) (AV.str s5) (AV.bool false) (AV.int .i64 n6) (AV.bool b7) (AV.sl 1 l8) (AV.int .i64 n9) = (ifB (decide ((n9 : Int) < (List.length l8 : Int))) ((ifB b7 (idx l8 n9 fun c11 => getC c11 0 fun a12 => asS a12 fun s13 => (ref17_Has (AV.sl 1 l3) (AV.str s13)).bind fun r14 => asB r14 fun b15 => some b15) (some false) : Option Bool).bind fun b10 => ref17_Order.l3 (AV.sl 1 l1) (AV.sl 2 l2) (AV.own 1 l3) (AV.int .i64 n4) (AV.str s5) (AV.bool false) (AV.int .i64 n6) (AV.bool b10) (AV.sl 1 l8) (AV.int .i64 (w64 (n9 + 1)))) (ifB b7 (idx l1 n6 fun c16 => getC c16 0 fun a17 => asS a17 fun s18 => ref17_Order.l1 (AV.sl 1 l1) (AV.sl 2 l2) (AV.own 1 l3) (AV.int .i64 n4) (AV.str s18) (AV.bool true) (AV.int .i64 (w64 (n6 + 1)))) (ref17_Order.l1 (AV.sl 1 l1) (AV.sl 2 l2) (AV.own 1 l3) (AV.int .i64 n4) (AV.str s5) (AV.bool false) (AV.int .i64 (w64 (n6 + 1)))))) :=
  (loopAt_eq S 43 d43 [1, 1, 0, 1, 0, 0, 1, 0, 0, 1, 1, 0, 1, 0, 0, 1, 0, 0, 1, 1, 1, 0, 1, 0] _).trans (by kernel_rfl)
theorem ref17_Order.l1_eq2 (l1 : List (List AV)) (l2 : List (List AV)) (l3 : List (List AV)) (n4 : Int) (s5 : List UInt8) (n6 : Int) : ref17_Order.l1 (AV.sl 1 l1) (AV.sl 2 l2) (AV.own 1 l3) (AV.int .i64 n4) (AV.str s5) (AV.bool true) (AV.int .i64 n6) = ((ifB (decide ((n6 : Int) < (List.length l1 : Int))) (some false) (some false) : Option Bool).bind fun b7 => ifB b7 (idx l1 n6 fun c8 => getC c8 0 fun a9 => asS a9 fun s10 => (ref17_Has (AV.sl 1 l3) (AV.str s10)).bind fun r11 => asB r11 fun b12 => ifB b12 (ref17_Order.l1 (AV.sl 1 l1) (AV.sl 2 l2) (AV.own 1 l3) (AV.int .i64 n4) (AV.str s5) (AV.bool true) (AV.int .i64 (w64 (n6 + 1)))) (idx l1 n6 fun c13 => getC c13 0 fun a14 => asS a14 fun s15 => (ref17_To (AV.sl 2 l2) (AV.str s15)).bind fun r16 => asL 1 r16 fun l17 => ref17_Order.l3 (AV.sl 1 l1) (AV.sl 2 l2) (AV.own 1 l3) (AV.int .i64 n4) (AV.str s5) (AV.bool true) (AV.int .i64 n6) (AV.bool true) (AV.sl 1 l17) (AV.int .i64 0))) (guardK (Nat.ble (List.length l3 + List.length ([[AV.str s5]])) lim) <| ref17_Order.l0 (AV.sl 1 l1) (AV.sl 2 l2) (AV.own 1 (l3 ++ ([[AV.str s5]]))) (AV.int .i64 (w64 (n4 + 1))))) :=
  (loopAt_eq S 43 d43 [1, 1, 0, 1, 0, 0, 1, 0, 0, 1, 1, 0, 1, 0] _).trans (by kernel_rfl)
theorem ref17_Order.l3_eq3 (l1 : List (List AV)) (l2 : List (List AV)) (l3 : List (List AV)) (n4 : Int) (s5 : List UInt8) (n6 : Int) (l7 : List (List AV)) (n8 : Int) : ref17_Order.l3 (AV.sl 1 l1) (AV.sl 2 l2) (AV.own 1 l3) (AV.int .i64 n4) (AV.str s5) (AV.bool true) (AV.int .i64 n6) (AV.bool true) (AV.sl 1 l7) (AV.int .i64 n8) = (ifB (decide ((n8 : Int) < (List.length l7 : Int))) ((idx l7 n8 fun c10 => getC c10 0 fun a11 => asS a11 fun s12 => (ref17_Has (AV.sl 1 l3) (AV.str s12)).bind fun r13 => asB r13 fun b14 => some b14 : Option Bool).bind fun b9 => ref17_Order.l3 (AV.sl 1 l1) (AV.sl 2 l2) (AV.own 1 l3) (AV.int .i64 n4) (AV.str s5) (AV.bool true) (AV.int .i64 n6) (AV.bool b9) (AV.sl 1 l7) (AV.int .i64 (w64 (n8 + 1)))) (idx l1 n6 fun c15 => getC c15 0 fun a16 => asS a16 fun s17 => ref17_Order.l1 (AV.sl 1 l1) (AV.sl 2 l2) (AV.own 1 l3) (AV.int .i64 n4) (AV.str s17) (AV.bool true) (AV.int .i64 (w64 (n6 + 1))))) :=
  (loopAt_eq S 43 d43 [1, 1, 0, 1, 0, 0, 1, 0, 0, 1, 1, 0, 1, 0, 0, 1, 0, 0, 1, 1, 1, 0, 1, 0] _).trans (by kernel_rfl)
theorem ref17_Order.l3_eq4 (l1 : List (List AV)) (l2 : List (List AV)) (l3 : List (List AV)) (n4 : Int) (s5 : List UInt8) (n6 : Int) (b7 : Bool) (l8 : List (List AV)) (n9 : Int) : ref17_Order.l3 (AV.sl 1 l1) (AV.sl 2 l2) (AV.own 1 l3) (AV.int .i64 n4) (AV.str s5) (AV.bool true) (AV.int .i64 n6) (AV.bool b7) (AV.sl 1 l8) (AV.int .i64 n9) = (ifB (decide ((n9 : Int) < (List.length l8 : Int))) ((ifB b7 (idx l8 n9 fun c11 => getC c11 0 fun a12 => asS a12 fun s13 => (ref17_Has (AV.sl 1 l3) (AV.str s13)).bind fun r14 => asB r14 fun b15 => some b15) (some false) : Option Bool).bind fun b10 => ref17_Order.l3 (AV.sl 1 l1) (AV.sl 2 l2) (AV.own 1 l3) (AV.int .i64 n4) (AV.str s5) (AV.bool true) (AV.int .i64 n6) (AV.bool b10) (AV.sl 1 l8) (AV.int .i64 (w64 (n9 + 1)))) (ifB b7 (idx l1 n6 fun c16 => getC c16 0 fun a17 => asS a17 fun s18 => ref17_Order.l1 (AV.sl 1 l1) (AV.sl 2 l2) (AV.own 1 l3) (AV.int .i64 n4) (AV.str s18) (AV.bool true) (AV.int .i64 (w64 (n6 + 1)))) (ref17_Order.l1 (AV.sl 1 l1) (AV.sl 2 l2) (AV.own 1 l3) (AV.int .i64 n4) (AV.str s5) (AV.bool true) (AV.int .i64 (w64 (n6 + 1)))))) :=
  (loopAt_eq S 43 d43 [1, 1, 0, 1, 0, 0, 1, 0, 0, 1, 1, 0, 1, 0, 0, 1, 0, 0, 1, 1, 1, 0, 1, 0] _).trans (by kernel_rfl)

/-! treillage/treillageref30.Lines: function 44 -/
noncomputable def d44 : FD := ⟨(Tryz.f44.body).getD .skip, Tryz.f44.results.toList, 51⟩
theorem run44 (l : List AV) : ωκ S 44 l = runM τ ann44 (ωκ S) [2] lpκ d44.code (look (argEnv 0 l)) (retV τ d44.rs) :=
  ωκ_run S 44 l d44 rfl (by show (Tryz.prog.funcs[44]?).bind toFD = _; rw [Tryz.func44]; rfl)
noncomputable def ref30_Lines.l0 (a0 a3 a4 : AV) : Option AV := loopAt S 44 d44 [1, 1, 0, 1, 0] (look [(0, a0), (3, a3), (4, a4)])
noncomputable def ref30_Lines.l1 (a0 a3 a4 a5 : AV) : Option AV := loopAt S 44 d44 [1, 1, 0, 1, 0, 0, 1, 0, 0, 1, 0] (look [(0, a0), (3, a3), (4, a4), (5, a5)])
theorem ref30_Lines.f_eq (l1 : List (List AV)) : ref30_Lines (AV.sl 3 l1) = (ref30_Lines.l0 (AV.sl 3 l1) (AV.own 2 []) (AV.int .i64 0)) :=
  (run44 _).trans (by kernel_rfl)
theorem ref30_Lines.l0_eq (l1 : List (List AV)) (l2 : List (List AV)) (n3 : Int) : ref30_Lines.l0 (AV.sl 3 l1) (AV.own 2 l2) (AV.int .i64 n3) = (ifB (decide ((n3 : Int) < (List.length l1 : Int))) (ref30_Lines.l1 (AV.sl 3 l1) (AV.own 2 l2) (AV.int .i64 n3) (AV.int .i64 0)) (some (AV.own 2 l2))) :=
  (loopAt_eq S 44 d44 [1, 1, 0, 1, 0] _).trans (by kernel_rfl)
theorem ref30_Lines.l1_eq (l1 : List (List AV)) (l2 : List (List AV)) (n3 : Int) (n4 : Int) : ref30_Lines.l1 (AV.sl 3 l1) (AV.own 2 l2) (AV.int .i64 n3) (AV.int .i64 n4) = (idx l1 n3 fun c5 => getC c5 2 fun a6 => asL 1 a6 fun l7 => ifB (decide ((n4 : Int) < (List.length l7 : Int))) (idx l1 n3 fun c8 => getC c8 2 fun a9 => asL 1 a9 fun l10 => idx l10 n4 fun c11 => getC c11 0 fun a12 => asS a12 fun s13 => (ref30_Find (AV.sl 3 l1) (AV.str s13)).bind fun r14 => asI .i64 r14 fun n15 => ifB (decide ((0 : Int) ≤ n15)) (idx l1 n3 fun c16 => getC c16 0 fun a17 => asS a17 fun s18 => idx l1 n3 fun c19 => getC c19 2 fun a20 => asL 1 a20 fun l21 => idx l21 n4 fun c22 => getC c22 0 fun a23 => asS a23 fun s24 => guardK (Nat.ble (List.length l2 + List.length ([[AV.str s18, AV.str s24]])) lim) <| ref30_Lines.l1 (AV.sl 3 l1) (AV.own 2 (l2 ++ ([[AV.str s18, AV.str s24]]))) (AV.int .i64 n3) (AV.int .i64 (w64 (n4 + 1)))) (ref30_Lines.l1 (AV.sl 3 l1) (AV.own 2 l2) (AV.int .i64 n3) (AV.int .i64 (w64 (n4 + 1))))) (ref30_Lines.l0 (AV.sl 3 l1) (AV.own 2 l2) (AV.int .i64 (w64 (n3 + 1))))) :=
  (loopAt_eq S 44 d44 [1, 1, 0, 1, 0, 0, 1, 0, 0, 1, 0] _).trans (by kernel_rfl)

/-! slices.EqualFunc[[]treillage/api.Thing,[]treillage/api.Thing,treillage/api.Thing,treillage/api.Thing]: function 45 -/
noncomputable def d45 : FD := ⟨(Tryz.f45.body).getD .skip, Tryz.f45.results.toList, 32⟩
theorem run45 (l : List AV) : ωκ S 45 l = runM τ ann45 (ωκ S) [6] lpκ d45.code (look (argEnv 0 l)) (retV τ d45.rs) :=
  ωκ_run S 45 l d45 rfl (by show (Tryz.prog.funcs[45]?).bind toFD = _; rw [Tryz.func45]; rfl)
noncomputable def slices_EqualFunc__Thing.l0 (a1 a2 a15 a16 a17 : AV) : Option AV := loopAt S 45 d45 [1, 1, 0, 1, 0] (look [(1, a1), (2, a2), (15, a15), (16, a16), (17, a17)])
theorem slices_EqualFunc__Thing.f_eq (l1 : List (List AV)) (l2 : List (List AV)) (f3 : Nat) (c4 : List AV) : slices_EqualFunc__Thing (AV.sl 3 l1) (AV.sl 3 l2) (AV.fn f3 c4) = (ifB (!decide (((List.length l1 : Int) : Int) = (List.length l2 : Int))) (some (AV.bool false)) (slices_EqualFunc__Thing.l0 (AV.sl 3 l2) (AV.fn f3 c4) (AV.sl 3 l1) (AV.int .i64 (List.length l1 : Int)) (AV.int .i64 0))) :=
  (run45 _).trans (by kernel_rfl)
theorem slices_EqualFunc__Thing.l0_eq (l1 : List (List AV)) (f2 : Nat) (c3 : List AV) (l4 : List (List AV)) (n5 : Int) (n6 : Int) : slices_EqualFunc__Thing.l0 (AV.sl 3 l1) (AV.fn f2 c3) (AV.sl 3 l4) (AV.int .i64 n5) (AV.int .i64 n6) = (ifB (decide ((n6 : Int) < n5)) (idx l4 n6 fun c7 => idx l1 n6 fun c8 => (ωκ S f2 ([AV.agg 3 c7, AV.agg 3 c8] ++ c3)).bind fun r9 => asB r9 fun b10 => ifB (!b10) (some (AV.bool false)) (slices_EqualFunc__Thing.l0 (AV.sl 3 l1) (AV.fn f2 c3) (AV.sl 3 l4) (AV.int .i64 n5) (AV.int .i64 (w64 (n6 + 1))))) (some (AV.bool true))) :=
  (loopAt_eq S 45 d45 [1, 1, 0, 1, 0] _).trans (by kernel_rfl)

/-! treillage/state.Same$1: function 46 -/
noncomputable def d46 : FD := ⟨(Tryz.f46.body).getD .skip, Tryz.f46.results.toList, 24⟩
theorem run46 (l : List AV) : ωκ S 46 l = runM τ (fun _ => none) (ωκ S) [4] lpκ d46.code (look (argEnv 0 l)) (retV τ d46.rs) :=
  ωκ_run S 46 l d46 rfl (by show (Tryz.prog.funcs[46]?).bind toFD = _; rw [Tryz.func46]; rfl)
theorem state_Same_1.f_eq (c1 : List AV) (c2 : List AV) : state_Same_1 (AV.agg 3 c1) (AV.agg 3 c2) = (getC c1 0 fun a3 => asS a3 fun s4 => getC c2 0 fun a5 => asS a5 fun s6 => (ifB (decide ((s4 : List UInt8) = s6)) (getC c1 1 fun a8 => getC c2 1 fun a9 => (rank_Same (AV.agg 1 [(frz a8)]) (AV.agg 1 [(frz a9)])).bind fun r10 => asB r10 fun b11 => some b11) (some false) : Option Bool).bind fun b7 => (ifB b7 (getC c1 2 fun a13 => asL 1 a13 fun l14 => getC c2 2 fun a15 => asL 1 a15 fun l16 => (slices_Equal__string (AV.sl 1 l14) (AV.sl 1 l16)).bind fun r17 => asB r17 fun b18 => some b18) (some false) : Option Bool).bind fun b12 => some (AV.bool b12)) :=
  (run46 _).trans (by kernel_rfl)

/-! treillage/rank.Same: function 47 -/
noncomputable def d47 : FD := ⟨(Tryz.f47.body).getD .skip, Tryz.f47.results.toList, 9⟩
theorem run47 (l : List AV) : ωκ S 47 l = runM τ (fun _ => none) (ωκ S) [4] lpκ d47.code (look (argEnv 0 l)) (retV τ d47.rs) :=
  ωκ_run S 47 l d47 rfl (by show (Tryz.prog.funcs[47]?).bind toFD = _; rw [Tryz.func47]; rfl)
theorem rank_Same.f_eq (c1 : List AV) (c2 : List AV) : rank_Same (AV.agg 1 c1) (AV.agg 1 c2) = ((rank_Compare (AV.agg 1 c1) (AV.agg 1 c2)).bind fun r3 => asI .i64 r3 fun n4 => some (AV.bool (decide ((n4 : Int) = 0)))) :=
  (run47 _).trans (by kernel_rfl)

/-! slices.Equal[[]string,string]: function 48 -/
noncomputable def d48 : FD := ⟨(Tryz.f48.body).getD .skip, Tryz.f48.results.toList, 26⟩
theorem run48 (l : List AV) : ωκ S 48 l = runM τ ann48 (ωκ S) [4] lpκ d48.code (look (argEnv 0 l)) (retV τ d48.rs) :=
  ωκ_run S 48 l d48 rfl (by show (Tryz.prog.funcs[48]?).bind toFD = _; rw [Tryz.func48]; rfl)
noncomputable def slices_Equal__string.l0 (a0 a1 a12 a13 : AV) : Option AV := loopAt S 48 d48 [1, 1, 0, 1, 0] (look [(0, a0), (1, a1), (12, a12), (13, a13)])
theorem slices_Equal__string.f_eq (l1 : List (List AV)) (l2 : List (List AV)) : slices_Equal__string (AV.sl 1 l1) (AV.sl 1 l2) = (ifB (!decide (((List.length l1 : Int) : Int) = (List.length l2 : Int))) (some (AV.bool false)) (slices_Equal__string.l0 (AV.sl 1 l1) (AV.sl 1 l2) (AV.int .i64 (List.length l1 : Int)) (AV.int .i64 0))) :=
  (run48 _).trans (by kernel_rfl)
theorem slices_Equal__string.l0_eq (l1 : List (List AV)) (l2 : List (List AV)) (n3 : Int) (n4 : Int) : slices_Equal__string.l0 (AV.sl 1 l1) (AV.sl 1 l2) (AV.int .i64 n3) (AV.int .i64 n4) = (ifB (decide ((n4 : Int) < n3)) (idx l1 n4 fun c5 => getC c5 0 fun a6 => asS a6 fun s7 => idx l2 n4 fun c8 => getC c8 0 fun a9 => asS a9 fun s10 => ifB (!decide ((s7 : List UInt8) = s10)) (some (AV.bool false)) (slices_Equal__string.l0 (AV.sl 1 l1) (AV.sl 1 l2) (AV.int .i64 n3) (AV.int .i64 (w64 (n4 + 1))))) (some (AV.bool true))) :=
  (loopAt_eq S 48 d48 [1, 1, 0, 1, 0] _).trans (by kernel_rfl)
end Go.Proofs.YtffojfcinkihnaaGreatDoor.Abs
/- What the code comes to, function by function (printed by gen.py). -/
set_option linter.unusedVariables false
set_option linter.unusedSimpArgs false
set_option linter.unusedSectionVars false
set_option linter.deprecated false
set_option linter.unnecessarySimpa false
namespace Go.Proofs.YtffojfcinkihnaaGreatDoor.Abs
set_option linter.unusedVariables false
set_option maxRecDepth 100000

/-! treillage/treillagelaw08.Few: function 53 -/
noncomputable def d53 : FD := ⟨(Tryz.f53.body).getD .skip, Tryz.f53.results.toList, 6⟩
theorem run53 (l : List AV) : ωκ S 53 l = runM τ (fun _ => none) (ωκ S) [2] lpκ d53.code (look (argEnv 0 l)) (retV τ d53.rs) :=
  ωκ_run S 53 l d53 rfl (by show (Tryz.prog.funcs[53]?).bind toFD = _; rw [Tryz.func53]; rfl)
theorem law08_Few.f_eq (c1 : List AV) : law08_Few (AV.agg 1 c1) = ((law08_left (AV.agg 1 c1) (AV.int .i64 20) (AV.int .i64 200)).bind fun r2 => asI .i64 r2 fun n3 => some (AV.bool (decide ((0 : Int) ≤ n3)))) :=
  (run53 _).trans (by kernel_rfl)

/-! treillage/treillageref08.Weight: function 54 -/
noncomputable def d54 : FD := ⟨(Tryz.f54.body).getD .skip, Tryz.f54.results.toList, 37⟩
theorem run54 (l : List AV) : ωκ S 54 l = runM τ ann54 (ωκ S) [2] lpκ d54.code (look (argEnv 0 l)) (retV τ d54.rs) :=
  ωκ_run S 54 l d54 rfl (by show (Tryz.prog.funcs[54]?).bind toFD = _; rw [Tryz.func54]; rfl)
noncomputable def ref08_Weight.l0 (a1 a3 a4 : AV) : Option AV := loopAt S 54 d54 [1, 1, 0, 1, 0] (look [(1, a1), (3, a3), (4, a4)])
noncomputable def ref08_Weight.l1 (a1 a3 a4 a5 a6 : AV) : Option AV := loopAt S 54 d54 [1, 1, 0, 1, 0, 0, 1, 0, 0, 1, 1, 1, 0] (look [(1, a1), (3, a3), (4, a4), (5, a5), (6, a6)])
theorem ref08_Weight.f_eq (c1 : List AV) : ref08_Weight (AV.agg 1 c1) = (ref08_Weight.l0 (AV.boxv 1 c1 []) (AV.int .i64 0) (AV.int .i64 0)) :=
  (run54 _).trans (by kernel_rfl)
theorem ref08_Weight.l0_eq (c1 : List AV) (n2 : Int) (n3 : Int) : ref08_Weight.l0 (AV.boxv 1 c1 []) (AV.int .i64 n2) (AV.int .i64 n3) = (getC c1 0 fun a4 => asL 8 a4 fun l5 => ifB (decide ((n3 : Int) < (List.length l5 : Int))) (getC c1 0 fun a6 => asL 8 a6 fun l7 => idx l7 n3 fun c8 => getC c8 7 fun a9 => asL 2 a9 fun l10 => ref08_Weight.l1 (AV.boxv 1 c1 []) (AV.int .i64 (w64 (n2 + 1))) (AV.int .i64 n3) (AV.sl 2 l10) (AV.int .i64 0)) (some (AV.int .i64 n2))) :=
  (loopAt_eq S 54 d54 [1, 1, 0, 1, 0] _).trans (by kernel_rfl)
theorem ref08_Weight.l1_eq (c1 : List AV) (n2 : Int) (n3 : Int) (l4 : List (List AV)) (n5 : Int) : ref08_Weight.l1 (AV.boxv 1 c1 []) (AV.int .i64 n2) (AV.int .i64 n3) (AV.sl 2 l4) (AV.int .i64 n5) = (ifB (decide ((n5 : Int) < (List.length l4 : Int))) (idx l4 n5 fun c6 => getC c6 1 fun a7 => (ref08_Weight (AV.agg 1 [a7])).bind fun r8 => asI .i64 r8 fun n9 => ref08_Weight.l1 (AV.boxv 1 c1 []) (AV.int .i64 (w64 (n2 + n9))) (AV.int .i64 n3) (AV.sl 2 l4) (AV.int .i64 (w64 (n5 + 1)))) (ref08_Weight.l0 (AV.boxv 1 c1 []) (AV.int .i64 n2) (AV.int .i64 (w64 (n3 + 1))))) :=
  (loopAt_eq S 54 d54 [1, 1, 0, 1, 0, 0, 1, 0, 0, 1, 1, 1, 0] _).trans (by kernel_rfl)

/-! treillage/treillageref08.Compare: function 62 -/
noncomputable def d62 : FD := ⟨(Tryz.f62.body).getD .skip, Tryz.f62.results.toList, 42⟩
theorem run62 (l : List AV) : ωκ S 62 l = runM τ ann62 (ωκ S) [4] lpκ d62.code (look (argEnv 0 l)) (retV τ d62.rs) :=
  ωκ_run S 62 l d62 rfl (by show (Tryz.prog.funcs[62]?).bind toFD = _; rw [Tryz.func62]; rfl)
noncomputable def ref08_Compare.l0 (a2 a3 a5 : AV) : Option AV := loopAt S 62 d62 [1, 0, 1, 0] (look [(2, a2), (3, a3), (5, a5)])
theorem ref08_Compare.f_eq (c1 : List AV) (c2 : List AV) : ref08_Compare (AV.agg 1 c1) (AV.agg 1 c2) = (ref08_Compare.l0 (AV.boxv 1 c1 []) (AV.boxv 1 c2 []) (AV.int .i64 0)) :=
  (run62 _).trans (by kernel_rfl)
theorem ref08_Compare.l0_eq (c1 : List AV) (c2 : List AV) (n3 : Int) : ref08_Compare.l0 (AV.boxv 1 c1 []) (AV.boxv 1 c2 []) (AV.int .i64 n3) = (getC c1 0 fun a4 => asL 8 a4 fun l5 => (ifB (decide ((n3 : Int) < (List.length l5 : Int))) (getC c2 0 fun a7 => asL 8 a7 fun l8 => some (decide ((n3 : Int) < (List.length l8 : Int)))) (some false) : Option Bool).bind fun b6 => ifB b6 (getC c1 0 fun a9 => asL 8 a9 fun l10 => idx l10 n3 fun c11 => getC c2 0 fun a12 => asL 8 a12 fun l13 => idx l13 n3 fun c14 => (ref08_Terms (AV.agg 8 c11) (AV.agg 8 c14)).bind fun r15 => asI .i64 r15 fun n16 => ifB (!decide ((n16 : Int) = 0)) (some (AV.int .i64 n16)) (ref08_Compare.l0 (AV.boxv 1 c1 []) (AV.boxv 1 c2 []) (AV.int .i64 (w64 (n3 + 1))))) (getC c1 0 fun a17 => asL 8 a17 fun l18 => getC c2 0 fun a19 => asL 8 a19 fun l20 => (ref08_nums (AV.int .i64 (List.length l18 : Int)) (AV.int .i64 (List.length l20 : Int))).bind fun r21 => asI .i64 r21 fun n22 => some (AV.int .i64 n22))) :=
  (loopAt_eq S 62 d62 [1, 0, 1, 0] _).trans (by kernel_rfl)

/-! treillage/fact.One: function 63 -/
noncomputable def d63 : FD := ⟨(Tryz.f63.body).getD .skip, Tryz.f63.results.toList, 36⟩
theorem run63 (l : List AV) : ωκ S 63 l = runM τ (fun _ => none) (ωκ S) [3] lpκ d63.code (look (argEnv 0 l)) (retV τ d63.rs) :=
  ωκ_run S 63 l d63 rfl (by show (Tryz.prog.funcs[63]?).bind toFD = _; rw [Tryz.func63]; rfl)
theorem fact_One.f_eq (c1 : List AV) : fact_One (AV.agg 1 c1) = ((lat_Right (AV.agg 1 c1)).bind fun r2 => asB r2 fun b3 => ifB (!b3) (some (.tup [AV.agg 8 [AV.int .i64 0, AV.int .i64 0, AV.int .i64 0, AV.str [], AV.bool false, AV.bool false, AV.bool false, AV.sl 2 []], AV.int .i64 1])) ((fact_one (AV.agg 1 c1)).bind fun r4 => asT2 r4 fun a5 a6 => asC 8 a5 fun c7 => asI .i64 a6 fun n8 => (ifB (decide ((n8 : Int) = 0)) (getC c7 0 fun a10 => asI .i64 a10 fun n11 => some (decide ((n11 : Int) = 4))) (some false) : Option Bool).bind fun b9 => ifB b9 ((lat_Of (AV.sl 8 [c7])).bind fun r12 => asT2 r12 fun a13 a14 => asC 1 a13 fun c15 => asI .i64 a14 fun n16 => getC c15 0 fun a17 => asL 8 a17 fun l18 => idx l18 0 fun c19 => some (.tup [AV.agg 8 c19, AV.int .i64 n8])) (some (.tup [AV.agg 8 c7, AV.int .i64 n8])))) :=
  (run63 _).trans (by kernel_rfl)

/-! treillage/fact.Settled: function 65 -/
noncomputable def d65 : FD := ⟨(Tryz.f65.body).getD .skip, Tryz.f65.results.toList, 9⟩
theorem run65 (l : List AV) : ωκ S 65 l = runM τ (fun _ => none) (ωκ S) [2] lpκ d65.code (look (argEnv 0 l)) (retV τ d65.rs) :=
  ωκ_run S 65 l d65 rfl (by show (Tryz.prog.funcs[65]?).bind toFD = _; rw [Tryz.func65]; rfl)
theorem fact_Settled.f_eq (c1 : List AV) : fact_Settled (AV.agg 1 c1) = ((lat_Right (AV.agg 1 c1)).bind fun r2 => asB r2 fun b3 => (ifB b3 ((fact_all (AV.agg 1 c1) (AV.fn 97 [])).bind fun r5 => asB r5 fun b6 => some b6) (some false) : Option Bool).bind fun b4 => some (AV.bool b4)) :=
  (run65 _).trans (by kernel_rfl)

/-! treillage/name.Rising: function 66 -/
noncomputable def d66 : FD := ⟨(Tryz.f66.body).getD .skip, Tryz.f66.results.toList, 29⟩
theorem run66 (l : List AV) : ωκ S 66 l = runM τ ann66 (ωκ S) [2] lpκ d66.code (look (argEnv 0 l)) (retV τ d66.rs) :=
  ωκ_run S 66 l d66 rfl (by show (Tryz.prog.funcs[66]?).bind toFD = _; rw [Tryz.func66]; rfl)
noncomputable def name_Rising.l0 (a0 a5 a6 a7 : AV) : Option AV := loopAt S 66 d66 [1, 0, 1, 0] (look [(0, a0), (5, a5), (6, a6), (7, a7)])
theorem name_Rising.f_eq (l1 : List (List AV)) : name_Rising (AV.sl 1 l1) = (name_Rising.l0 (AV.sl 1 l1) (AV.sl 1 l1) (AV.int .i64 (List.length l1 : Int)) (AV.int .i64 0)) :=
  (run66 _).trans (by kernel_rfl)
theorem name_Rising.l0_eq (l1 : List (List AV)) (l2 : List (List AV)) (n3 : Int) (n4 : Int) : name_Rising.l0 (AV.sl 1 l1) (AV.sl 1 l2) (AV.int .i64 n3) (AV.int .i64 n4) = (ifB (decide ((n4 : Int) < n3)) (idx l2 n4 fun c5 => getC c5 0 fun a6 => asS a6 fun s7 => (name_Right (AV.str s7)).bind fun r8 => asB r8 fun b9 => (ifB (!b9) (some true) ((ifB (decide ((0 : Int) < n4)) (idx l1 (w64 (n4 - 1)) fun c12 => getC c12 0 fun a13 => asS a13 fun s14 => some (bytesLt s7 s14 || decide ((s7 : List UInt8) = s14))) (some false) : Option Bool).bind fun b11 => some b11) : Option Bool).bind fun b10 => ifB b10 (some (AV.bool false)) (name_Rising.l0 (AV.sl 1 l1) (AV.sl 1 l2) (AV.int .i64 n3) (AV.int .i64 (w64 (n4 + 1))))) (some (AV.bool true))) :=
  (loopAt_eq S 66 d66 [1, 0, 1, 0] _).trans (by kernel_rfl)

/-! slices.Contains[[]string,string]: function 67 -/
noncomputable def d67 : FD := ⟨(Tryz.f67.body).getD .skip, Tryz.f67.results.toList, 9⟩
theorem run67 (l : List AV) : ωκ S 67 l = runM τ (fun _ => none) (ωκ S) [4] lpκ d67.code (look (argEnv 0 l)) (retV τ d67.rs) :=
  ωκ_run S 67 l d67 rfl (by show (Tryz.prog.funcs[67]?).bind toFD = _; rw [Tryz.func67]; rfl)
theorem slices_Contains__string.f_eq (l1 : List (List AV)) (s2 : List UInt8) : slices_Contains__string (AV.sl 1 l1) (AV.str s2) = ((slices_Index__string (AV.sl 1 l1) (AV.str s2)).bind fun r3 => asI .i64 r3 fun n4 => some (AV.bool (decide ((0 : Int) ≤ n4)))) :=
  (run67 _).trans (by kernel_rfl)
end Go.Proofs.YtffojfcinkihnaaGreatDoor.Abs
/- What the code comes to, function by function (printed by gen.py). -/
set_option linter.unusedVariables false
set_option linter.unusedSimpArgs false
set_option linter.unusedSectionVars false
set_option linter.deprecated false
set_option linter.unnecessarySimpa false
namespace Go.Proofs.YtffojfcinkihnaaGreatDoor.Abs
set_option linter.unusedVariables false
set_option maxRecDepth 100000

/-! treillage/treillageref09.Right: function 72 -/
noncomputable def d72 : FD := ⟨(Tryz.f72.body).getD .skip, Tryz.f72.results.toList, 77⟩
theorem run72 (l : List AV) : ωκ S 72 l = runM τ ann72 (ωκ S) [2] lpκ d72.code (look (argEnv 0 l)) (retV τ d72.rs) :=
  ωκ_run S 72 l d72 rfl (by show (Tryz.prog.funcs[72]?).bind toFD = _; rw [Tryz.func72]; rfl)
noncomputable def ref09_Right.l0 (a1 a3 : AV) : Option AV := loopAt S 72 d72 [1, 1, 0, 1, 0] (look [(1, a1), (3, a3)])
noncomputable def ref09_Right.l1 (a1 a4 : AV) : Option AV := loopAt S 72 d72 [1, 1, 1, 0, 1, 0] (look [(1, a1), (4, a4)])
noncomputable def ref09_Right.l2 (a1 a4 a5 : AV) : Option AV := loopAt S 72 d72 [1, 1, 1, 0, 1, 0, 0, 1, 0, 0, 1, 0] (look [(1, a1), (4, a4), (5, a5)])
theorem ref09_Right.f_eq (c1 : List AV) : ref09_Right (AV.agg 1 c1) = ((ref08_Weight (AV.agg 1 c1)).bind fun r2 => asI .i64 r2 fun n3 => (ifB (decide ((512 : Int) < n3)) (some true) ((ref08_Depth (AV.agg 1 c1)).bind fun r5 => asI .i64 r5 fun n6 => some (decide ((16 : Int) < n6))) : Option Bool).bind fun b4 => ifB b4 (some (AV.bool false)) (ref09_Right.l0 (AV.boxv 1 c1 []) (AV.int .i64 0))) :=
  (run72 _).trans (by kernel_rfl)
theorem ref09_Right.l0_eq (c1 : List AV) (n2 : Int) : ref09_Right.l0 (AV.boxv 1 c1 []) (AV.int .i64 n2) = (getC c1 0 fun a3 => asL 8 a3 fun l4 => ifB (decide ((n2 : Int) < (List.length l4 : Int))) (getC c1 0 fun a5 => asL 8 a5 fun l6 => idx l6 n2 fun c7 => (ref09_Term (AV.agg 8 c7)).bind fun r8 => asB r8 fun b9 => (ifB (!b9) (some true) ((ifB (decide ((0 : Int) < n2)) (getC c1 0 fun a12 => asL 8 a12 fun l13 => idx l13 (w64 (n2 - 1)) fun c14 => getC c1 0 fun a15 => asL 8 a15 fun l16 => idx l16 n2 fun c17 => (ref08_Terms (AV.agg 8 c14) (AV.agg 8 c17)).bind fun r18 => asI .i64 r18 fun n19 => some (decide ((0 : Int) ≤ n19))) (some false) : Option Bool).bind fun b11 => some b11) : Option Bool).bind fun b10 => ifB b10 (some (AV.bool false)) (ref09_Right.l0 (AV.boxv 1 c1 []) (AV.int .i64 (w64 (n2 + 1))))) (ref09_Right.l1 (AV.boxv 1 c1 []) (AV.int .i64 0))) :=
  (loopAt_eq S 72 d72 [1, 1, 0, 1, 0] _).trans (by kernel_rfl)
theorem ref09_Right.l1_eq (c1 : List AV) (n2 : Int) : ref09_Right.l1 (AV.boxv 1 c1 []) (AV.int .i64 n2) = (getC c1 0 fun a3 => asL 8 a3 fun l4 => ifB (decide ((n2 : Int) < (List.length l4 : Int))) (ref09_Right.l2 (AV.boxv 1 c1 []) (AV.int .i64 n2) (AV.int .i64 0)) (some (AV.bool true))) :=
  (loopAt_eq S 72 d72 [1, 1, 1, 0, 1, 0] _).trans (by kernel_rfl)
theorem ref09_Right.l2_eq (c1 : List AV) (n2 : Int) (n3 : Int) : ref09_Right.l2 (AV.boxv 1 c1 []) (AV.int .i64 n2) (AV.int .i64 n3) = (getC c1 0 fun a4 => asL 8 a4 fun l5 => ifB (decide ((n3 : Int) < (List.length l5 : Int))) ((ifB (!decide ((n2 : Int) = n3)) (getC c1 0 fun a7 => asL 8 a7 fun l8 => idx l8 n2 fun c9 => getC c1 0 fun a10 => asL 8 a10 fun l11 => idx l11 n3 fun c12 => (ref09_under (AV.agg 8 c9) (AV.agg 8 c12)).bind fun r13 => asB r13 fun b14 => some b14) (some false) : Option Bool).bind fun b6 => ifB b6 (some (AV.bool false)) (ref09_Right.l2 (AV.boxv 1 c1 []) (AV.int .i64 n2) (AV.int .i64 (w64 (n3 + 1))))) (ref09_Right.l1 (AV.boxv 1 c1 []) (AV.int .i64 (w64 (n2 + 1))))) :=
  (loopAt_eq S 72 d72 [1, 1, 1, 0, 1, 0, 0, 1, 0, 0, 1, 0] _).trans (by kernel_rfl)

/-! treillage/treillageref11.settled: function 73 -/
noncomputable def d73 : FD := ⟨(Tryz.f73.body).getD .skip, Tryz.f73.results.toList, 51⟩
theorem run73 (l : List AV) : ωκ S 73 l = runM τ ann73 (ωκ S) [4] lpκ d73.code (look (argEnv 0 l)) (retV τ d73.rs) :=
  ωκ_run S 73 l d73 rfl (by show (Tryz.prog.funcs[73]?).bind toFD = _; rw [Tryz.func73]; rfl)
noncomputable def ref11_settled.l0 (a1 a5 a6 : AV) : Option AV := loopAt S 73 d73 [1, 1, 1, 1, 0, 1, 0] (look [(1, a1), (5, a5), (6, a6)])
theorem ref11_settled.f_eq (c1 : List AV) (b2 : Bool) : ref11_settled (AV.agg 1 c1) (AV.bool b2) = (getC c1 0 fun a3 => asL 8 a3 fun l4 => (ifB (!decide (((List.length l4 : Int) : Int) = 1)) (some true) (getC c1 0 fun a6 => asL 8 a6 fun l7 => idx l7 0 fun c8 => getC c8 0 fun a9 => asI .i64 a9 fun n10 => some (decide ((n10 : Int) = 5))) : Option Bool).bind fun b5 => ifB b5 (some (AV.bool false)) (getC c1 0 fun a11 => asL 8 a11 fun l12 => idx l12 0 fun c13 => getC c13 0 fun a14 => asI .i64 a14 fun n15 => ifB (!decide ((n15 : Int) = 4)) ((ref07_Single (AV.agg 8 c13)).bind fun r16 => asB r16 fun b17 => (ifB b17 (some true) ((ifB b2 (getC c13 5 fun a20 => asB a20 fun b21 => some b21) (some false) : Option Bool).bind fun b19 => some b19) : Option Bool).bind fun b18 => some (AV.bool b18)) (ref11_settled.l0 (AV.bool b2) (AV.boxv 8 c13 []) (AV.int .i64 0)))) :=
  (run73 _).trans (by kernel_rfl)
theorem ref11_settled.l0_eq (b1 : Bool) (c2 : List AV) (n3 : Int) : ref11_settled.l0 (AV.bool b1) (AV.boxv 8 c2 []) (AV.int .i64 n3) = (getC c2 7 fun a4 => asL 2 a4 fun l5 => ifB (decide ((n3 : Int) < (List.length l5 : Int))) (getC c2 7 fun a6 => asL 2 a6 fun l7 => idx l7 n3 fun c8 => getC c8 1 fun a9 => (ref11_settled (AV.agg 1 [a9]) (AV.bool b1)).bind fun r10 => asB r10 fun b11 => ifB (!b11) (some (AV.bool false)) (ref11_settled.l0 (AV.bool b1) (AV.boxv 8 c2 []) (AV.int .i64 (w64 (n3 + 1))))) (some (AV.bool true))) :=
  (loopAt_eq S 73 d73 [1, 1, 1, 1, 0, 1, 0] _).trans (by kernel_rfl)

/-! treillage/treillageref02.Right: function 74 -/
noncomputable def d74 : FD := ⟨(Tryz.f74.body).getD .skip, Tryz.f74.results.toList, 67⟩
theorem run74 (l : List AV) : ωκ S 74 l = runM τ ann74 (ωκ S) [2] lpκ d74.code (look (argEnv 0 l)) (retV τ d74.rs) :=
  ωκ_run S 74 l d74 rfl (by show (Tryz.prog.funcs[74]?).bind toFD = _; rw [Tryz.func74]; rfl)
noncomputable def ref02_Right.l0 (a0 a3 : AV) : Option AV := loopAt S 74 d74 [1, 1, 0, 1, 0] (look [(0, a0), (3, a3)])
theorem ref02_Right.f_eq (s1 : List UInt8) : ref02_Right (AV.str s1) = ((ifB (decide (((List.length s1 : Int) : Int) < 1)) (some true) (some (decide ((16 : Int) < (List.length s1 : Int)))) : Option Bool).bind fun b2 => (ifB b2 (some true) ((ref02_Word (AV.str s1)).bind fun r4 => asI .i64 r4 fun n5 => some (decide ((0 : Int) < n5))) : Option Bool).bind fun b3 => (ifB b3 (some true) (idx s1 0 fun c7 => some (decide (((c7.toNat : Int) : Int) < 97))) : Option Bool).bind fun b6 => (ifB b6 (some true) (idx s1 0 fun c9 => some (decide ((122 : Int) < (c9.toNat : Int)))) : Option Bool).bind fun b8 => ifB b8 (some (AV.bool false)) (ref02_Right.l0 (AV.str s1) (AV.int .i64 1))) :=
  (run74 _).trans (by kernel_rfl)
theorem ref02_Right.l0_eq (s1 : List UInt8) (n2 : Int) : ref02_Right.l0 (AV.str s1) (AV.int .i64 n2) = (ifB (decide ((n2 : Int) < (List.length s1 : Int))) (idx s1 n2 fun c3 => (ifB (decide ((97 : Int) ≤ (c3.toNat : Int))) (idx s1 n2 fun c5 => some (decide (((c5.toNat : Int) : Int) ≤ 122))) (some false) : Option Bool).bind fun b4 => idx s1 n2 fun c6 => (ifB (decide ((48 : Int) ≤ (c6.toNat : Int))) (idx s1 n2 fun c8 => some (decide (((c8.toNat : Int) : Int) ≤ 57))) (some false) : Option Bool).bind fun b7 => (ifB (!b4) (some (!b7)) (some false) : Option Bool).bind fun b9 => (ifB b9 (idx s1 n2 fun c11 => some (!decide (((c11.toNat : Int) : Int) = 95))) (some false) : Option Bool).bind fun b10 => ifB b10 (some (AV.bool false)) (ref02_Right.l0 (AV.str s1) (AV.int .i64 (w64 (n2 + 1))))) (some (AV.bool true))) :=
  (loopAt_eq S 74 d74 [1, 1, 0, 1, 0] _).trans (by kernel_rfl)

/-! treillage/treillageref17.To: function 75 -/
noncomputable def d75 : FD := ⟨(Tryz.f75.body).getD .skip, Tryz.f75.results.toList, 28⟩
theorem run75 (l : List AV) : ωκ S 75 l = runM τ ann75 (ωκ S) [4] lpκ d75.code (look (argEnv 0 l)) (retV τ d75.rs) :=
  ωκ_run S 75 l d75 rfl (by show (Tryz.prog.funcs[75]?).bind toFD = _; rw [Tryz.func75]; rfl)
noncomputable def ref17_To.l0 (a0 a1 a5 a6 : AV) : Option AV := loopAt S 75 d75 [1, 1, 0, 1, 0] (look [(0, a0), (1, a1), (5, a5), (6, a6)])
theorem ref17_To.f_eq (l1 : List (List AV)) (s2 : List UInt8) : ref17_To (AV.sl 2 l1) (AV.str s2) = (ref17_To.l0 (AV.sl 2 l1) (AV.str s2) (AV.own 1 []) (AV.int .i64 0)) :=
  (run75 _).trans (by kernel_rfl)
theorem ref17_To.l0_eq (l1 : List (List AV)) (s2 : List UInt8) (l3 : List (List AV)) (n4 : Int) : ref17_To.l0 (AV.sl 2 l1) (AV.str s2) (AV.own 1 l3) (AV.int .i64 n4) = (ifB (decide ((n4 : Int) < (List.length l1 : Int))) (idx l1 n4 fun c5 => getC c5 0 fun a6 => asS a6 fun s7 => ifB (decide ((s7 : List UInt8) = s2)) (idx l1 n4 fun c8 => getC c8 1 fun a9 => asS a9 fun s10 => (ref17_Put (AV.sl 1 l3) (AV.str s10)).bind fun r11 => asL 1 r11 fun l12 => ref17_To.l0 (AV.sl 2 l1) (AV.str s2) (AV.sl 1 l12) (AV.int .i64 (w64 (n4 + 1)))) (ref17_To.l0 (AV.sl 2 l1) (AV.str s2) (AV.own 1 l3) (AV.int .i64 (w64 (n4 + 1))))) (some (AV.own 1 l3))) :=
  (loopAt_eq S 75 d75 [1, 1, 0, 1, 0] _).trans (by kernel_rfl)
theorem ref17_To.l0_eq2 (l1 : List (List AV)) (s2 : List UInt8) (l3 : List (List AV)) (n4 : Int) : ref17_To.l0 (AV.sl 2 l1) (AV.str s2) (AV.sl 1 l3) (AV.int .i64 n4) = (ifB (decide ((n4 : Int) < (List.length l1 : Int))) (idx l1 n4 fun c5 => getC c5 0 fun a6 => asS a6 fun s7 => ifB (decide ((s7 : List UInt8) = s2)) (idx l1 n4 fun c8 => getC c8 1 fun a9 => asS a9 fun s10 => (ref17_Put (AV.sl 1 l3) (AV.str s10)).bind fun r11 => asL 1 r11 fun l12 => ref17_To.l0 (AV.sl 2 l1) (AV.str s2) (AV.sl 1 l12) (AV.int .i64 (w64 (n4 + 1)))) (ref17_To.l0 (AV.sl 2 l1) (AV.str s2) (AV.sl 1 l3) (AV.int .i64 (w64 (n4 + 1))))) (some (AV.sl 1 l3))) :=
  (loopAt_eq S 75 d75 [1, 1, 0, 1, 0] _).trans (by kernel_rfl)

/-! treillage/rank.Compare: function 76 -/
noncomputable def d76 : FD := ⟨(Tryz.f76.body).getD .skip, Tryz.f76.results.toList, 10⟩
theorem run76 (l : List AV) : ωκ S 76 l = runM τ (fun _ => none) (ωκ S) [4] lpκ d76.code (look (argEnv 0 l)) (retV τ d76.rs) :=
  ωκ_run S 76 l d76 rfl (by show (Tryz.prog.funcs[76]?).bind toFD = _; rw [Tryz.func76]; rfl)
theorem rank_Compare.f_eq (c1 : List AV) (c2 : List AV) : rank_Compare (AV.agg 1 c1) (AV.agg 1 c2) = (getC c1 0 fun a3 => asL 8 a3 fun l4 => getC c2 0 fun a5 => asL 8 a5 fun l6 => (rank_lists__Term (AV.sl 8 l4) (AV.sl 8 l6) (AV.fn 115 [])).bind fun r7 => asI .i64 r7 fun n8 => some (AV.int .i64 n8)) :=
  (run76 _).trans (by kernel_rfl)

/-! treillage/fact.Ready: function 77 -/
noncomputable def d77 : FD := ⟨(Tryz.f77.body).getD .skip, Tryz.f77.results.toList, 9⟩
theorem run77 (l : List AV) : ωκ S 77 l = runM τ (fun _ => none) (ωκ S) [2] lpκ d77.code (look (argEnv 0 l)) (retV τ d77.rs) :=
  ωκ_run S 77 l d77 rfl (by show (Tryz.prog.funcs[77]?).bind toFD = _; rw [Tryz.func77]; rfl)
theorem fact_Ready.f_eq (c1 : List AV) : fact_Ready (AV.agg 1 c1) = ((lat_Right (AV.agg 1 c1)).bind fun r2 => asB r2 fun b3 => (ifB b3 ((fact_all (AV.agg 1 c1) (AV.fn 116 [])).bind fun r5 => asB r5 fun b6 => some b6) (some false) : Option Bool).bind fun b4 => some (AV.bool b4)) :=
  (run77 _).trans (by kernel_rfl)

/-! treillage/treillageref11.Ready: function 81 -/
noncomputable def d81 : FD := ⟨(Tryz.f81.body).getD .skip, Tryz.f81.results.toList, 9⟩
theorem run81 (l : List AV) : ωκ S 81 l = runM τ (fun _ => none) (ωκ S) [2] lpκ d81.code (look (argEnv 0 l)) (retV τ d81.rs) :=
  ωκ_run S 81 l d81 rfl (by show (Tryz.prog.funcs[81]?).bind toFD = _; rw [Tryz.func81]; rfl)
theorem ref11_Ready.f_eq (c1 : List AV) : ref11_Ready (AV.agg 1 c1) = ((ref09_Right (AV.agg 1 c1)).bind fun r2 => asB r2 fun b3 => (ifB b3 ((ref11_settled (AV.agg 1 c1) (AV.bool true)).bind fun r5 => asB r5 fun b6 => some b6) (some false) : Option Bool).bind fun b4 => some (AV.bool b4)) :=
  (run81 _).trans (by kernel_rfl)

/-! treillage/treillagelaw08.left: function 83 -/
noncomputable def d83 : FD := ⟨(Tryz.f83.body).getD .skip, Tryz.f83.results.toList, 77⟩
theorem run83 (l : List AV) : ωκ S 83 l = runM τ ann83 (ωκ S) [6] lpκ d83.code (look (argEnv 0 l)) (retV τ d83.rs) :=
  ωκ_run S 83 l d83 rfl (by show (Tryz.prog.funcs[83]?).bind toFD = _; rw [Tryz.func83]; rfl)
noncomputable def law08_left.l0 (a1 a2 a3 a7 : AV) : Option AV := loopAt S 83 d83 [1, 1, 0, 1, 0] (look [(1, a1), (2, a2), (3, a3), (7, a7)])
noncomputable def law08_left.l1 (a1 a2 a3 a7 a8 a9 : AV) : Option AV := loopAt S 83 d83 [1, 1, 0, 1, 0, 0, 1, 0, 0, 1, 1, 1, 1, 0] (look [(1, a1), (2, a2), (3, a3), (7, a7), (8, a8), (9, a9)])
theorem law08_left.f_eq (c1 : List AV) (n2 : Int) (n3 : Int) : law08_left (AV.agg 1 c1) (AV.int .i64 n2) (AV.int .i64 n3) = ((ifB (decide ((n2 : Int) = 0)) (some true) (getC c1 0 fun a5 => asL 8 a5 fun l6 => some (decide ((n3 : Int) < (List.length l6 : Int)))) : Option Bool).bind fun b4 => ifB b4 (some (AV.int .i64 (-1))) (law08_left.l0 (AV.int .i64 n2) (AV.int .i64 n3) (AV.boxv 1 c1 []) (AV.int .i64 0))) :=
  (run83 _).trans (by kernel_rfl)
theorem law08_left.l0_eq (n1 : Int) (n2 : Int) (c3 : List AV) (n4 : Int) : law08_left.l0 (AV.int .i64 n1) (AV.int .i64 n2) (AV.boxv 1 c3 []) (AV.int .i64 n4) = (getC c3 0 fun a5 => asL 8 a5 fun l6 => (ifB (decide ((n4 : Int) < (List.length l6 : Int))) (some (decide ((0 : Int) ≤ n2))) (some false) : Option Bool).bind fun b7 => ifB b7 (getC c3 0 fun a8 => asL 8 a8 fun l9 => idx l9 n4 fun c10 => getC c10 3 fun a11 => asS a11 fun s12 => (ifB (decide ((400 : Int) < (List.length s12 : Int))) (some true) (getC c10 7 fun a14 => asL 2 a14 fun l15 => some (decide ((100 : Int) < (List.length l15 : Int)))) : Option Bool).bind fun b13 => ifB b13 (some (AV.int .i64 (-1))) (law08_left.l1 (AV.int .i64 n1) (AV.int .i64 (w64 (n2 - 1))) (AV.boxv 1 c3 []) (AV.int .i64 n4) (AV.boxv 8 c10 []) (AV.int .i64 0))) (some (AV.int .i64 n2))) :=
  (loopAt_eq S 83 d83 [1, 1, 0, 1, 0] _).trans (by kernel_rfl)
theorem law08_left.l1_eq (n1 : Int) (n2 : Int) (c3 : List AV) (n4 : Int) (c5 : List AV) (n6 : Int) : law08_left.l1 (AV.int .i64 n1) (AV.int .i64 n2) (AV.boxv 1 c3 []) (AV.int .i64 n4) (AV.boxv 8 c5 []) (AV.int .i64 n6) = (getC c5 7 fun a7 => asL 2 a7 fun l8 => (ifB (decide ((n6 : Int) < (List.length l8 : Int))) (some (decide ((0 : Int) ≤ n2))) (some false) : Option Bool).bind fun b9 => ifB b9 (getC c5 7 fun a10 => asL 2 a10 fun l11 => idx l11 n6 fun c12 => getC c12 0 fun a13 => asS a13 fun s14 => ifB (decide ((100 : Int) < (List.length s14 : Int))) (some (AV.int .i64 (-1))) (getC c5 7 fun a15 => asL 2 a15 fun l16 => idx l16 n6 fun c17 => getC c17 1 fun a18 => (law08_left (AV.agg 1 [a18]) (AV.int .i64 (w64 (n1 - 1))) (AV.int .i64 n2)).bind fun r19 => asI .i64 r19 fun n20 => law08_left.l1 (AV.int .i64 n1) (AV.int .i64 n20) (AV.boxv 1 c3 []) (AV.int .i64 n4) (AV.boxv 8 c5 []) (AV.int .i64 (w64 (n6 + 1))))) (law08_left.l0 (AV.int .i64 n1) (AV.int .i64 n2) (AV.boxv 1 c3 []) (AV.int .i64 (w64 (n4 + 1))))) :=
  (loopAt_eq S 83 d83 [1, 1, 0, 1, 0, 0, 1, 0, 0, 1, 1, 1, 1, 0] _).trans (by kernel_rfl)

/-! treillage/lat.Right: function 85 -/
noncomputable def d85 : FD := ⟨(Tryz.f85.body).getD .skip, Tryz.f85.results.toList, 10⟩
theorem run85 (l : List AV) : ωκ S 85 l = runM τ (fun _ => none) (ωκ S) [2] lpκ d85.code (look (argEnv 0 l)) (retV τ d85.rs) :=
  ωκ_run S 85 l d85 rfl (by show (Tryz.prog.funcs[85]?).bind toFD = _; rw [Tryz.func85]; rfl)
theorem lat_Right.f_eq (c1 : List AV) : lat_Right (AV.agg 1 c1) = ((lat_listed (AV.agg 1 c1) (AV.int .i64 16)).bind fun r2 => asB r2 fun b3 => (ifB b3 ((rank_Weight (AV.agg 1 c1)).bind fun r5 => asI .i64 r5 fun n6 => some (decide ((n6 : Int) ≤ 512))) (some false) : Option Bool).bind fun b4 => some (AV.bool b4)) :=
  (run85 _).trans (by kernel_rfl)
end Go.Proofs.YtffojfcinkihnaaGreatDoor.Abs
/- What the code comes to, function by function (printed by gen.py). -/
set_option linter.unusedVariables false
set_option linter.unusedSimpArgs false
set_option linter.unusedSectionVars false
set_option linter.deprecated false
set_option linter.unnecessarySimpa false
namespace Go.Proofs.YtffojfcinkihnaaGreatDoor.Abs
set_option linter.unusedVariables false
set_option maxRecDepth 100000

/-! treillage/treillageref08.Terms: function 90 -/
noncomputable def d90 : FD := ⟨(Tryz.f90.body).getD .skip, Tryz.f90.results.toList, 65⟩
theorem run90 (l : List AV) : ωκ S 90 l = runM τ ann90 (ωκ S) [4] lpκ d90.code (look (argEnv 0 l)) (retV τ d90.rs) :=
  ωκ_run S 90 l d90 rfl (by show (Tryz.prog.funcs[90]?).bind toFD = _; rw [Tryz.func90]; rfl)
noncomputable def ref08_Terms.l0 (a2 a3 a6 : AV) : Option AV := loopAt S 90 d90 [1, 1, 1, 0, 1, 0] (look [(2, a2), (3, a3), (6, a6)])
theorem ref08_Terms.f_eq (c1 : List AV) (c2 : List AV) : ref08_Terms (AV.agg 8 c1) (AV.agg 8 c2) = ((ref08_plain (AV.agg 8 c1) (AV.agg 8 c2)).bind fun r3 => asI .i64 r3 fun n4 => ifB (!decide ((n4 : Int) = 0)) (some (AV.int .i64 n4)) (ref08_Terms.l0 (AV.boxv 8 c1 []) (AV.boxv 8 c2 []) (AV.int .i64 0))) :=
  (run90 _).trans (by kernel_rfl)
theorem ref08_Terms.l0_eq (c1 : List AV) (c2 : List AV) (n3 : Int) : ref08_Terms.l0 (AV.boxv 8 c1 []) (AV.boxv 8 c2 []) (AV.int .i64 n3) = (getC c1 7 fun a4 => asL 2 a4 fun l5 => (ifB (decide ((n3 : Int) < (List.length l5 : Int))) (getC c2 7 fun a7 => asL 2 a7 fun l8 => some (decide ((n3 : Int) < (List.length l8 : Int)))) (some false) : Option Bool).bind fun b6 => ifB b6 (getC c1 7 fun a9 => asL 2 a9 fun l10 => idx l10 n3 fun c11 => getC c11 0 fun a12 => asS a12 fun s13 => getC c2 7 fun a14 => asL 2 a14 fun l15 => idx l15 n3 fun c16 => getC c16 0 fun a17 => asS a17 fun s18 => (ref08_texts (AV.str s13) (AV.str s18)).bind fun r19 => asI .i64 r19 fun n20 => ifB (decide ((n20 : Int) = 0)) (getC c1 7 fun a21 => asL 2 a21 fun l22 => idx l22 n3 fun c23 => getC c23 1 fun a24 => getC c2 7 fun a25 => asL 2 a25 fun l26 => idx l26 n3 fun c27 => getC c27 1 fun a28 => (ref08_Compare (AV.agg 1 [a24]) (AV.agg 1 [a28])).bind fun r29 => asI .i64 r29 fun n30 => ifB (!decide ((n30 : Int) = 0)) (some (AV.int .i64 n30)) (ref08_Terms.l0 (AV.boxv 8 c1 []) (AV.boxv 8 c2 []) (AV.int .i64 (w64 (n3 + 1))))) (ifB (!decide ((n20 : Int) = 0)) (some (AV.int .i64 n20)) (ref08_Terms.l0 (AV.boxv 8 c1 []) (AV.boxv 8 c2 []) (AV.int .i64 (w64 (n3 + 1)))))) (getC c1 7 fun a31 => asL 2 a31 fun l32 => getC c2 7 fun a33 => asL 2 a33 fun l34 => (ref08_nums (AV.int .i64 (List.length l32 : Int)) (AV.int .i64 (List.length l34 : Int))).bind fun r35 => asI .i64 r35 fun n36 => some (AV.int .i64 n36))) :=
  (loopAt_eq S 90 d90 [1, 1, 1, 0, 1, 0] _).trans (by kernel_rfl)

/-! treillage/treillageref08.nums: function 91 -/
noncomputable def d91 : FD := ⟨(Tryz.f91.body).getD .skip, Tryz.f91.results.toList, 11⟩
theorem run91 (l : List AV) : ωκ S 91 l = runM τ (fun _ => none) (ωκ S) [4] lpκ d91.code (look (argEnv 0 l)) (retV τ d91.rs) :=
  ωκ_run S 91 l d91 rfl (by show (Tryz.prog.funcs[91]?).bind toFD = _; rw [Tryz.func91]; rfl)
theorem ref08_nums.f_eq (n1 : Int) (n2 : Int) : ref08_nums (AV.int .i64 n1) (AV.int .i64 n2) = (ifB (decide ((n1 : Int) < n2)) (some (AV.int .i64 (-1))) (ifB (decide ((n2 : Int) < n1)) (some (AV.int .i64 1)) (some (AV.int .i64 0)))) :=
  (run91 _).trans (by kernel_rfl)

/-! treillage/fact.one: function 92 -/
noncomputable def d92 : FD := ⟨(Tryz.f92.body).getD .skip, Tryz.f92.results.toList, 28⟩
theorem run92 (l : List AV) : ωκ S 92 l = runM τ (fun _ => none) (ωκ S) [3] lpκ d92.code (look (argEnv 0 l)) (retV τ d92.rs) :=
  ωκ_run S 92 l d92 rfl (by show (Tryz.prog.funcs[92]?).bind toFD = _; rw [Tryz.func92]; rfl)
theorem fact_one.f_eq (c1 : List AV) : fact_one (AV.agg 1 c1) = (getC c1 0 fun a2 => asL 8 a2 fun l3 => ifB (decide (((List.length l3 : Int) : Int) = 0)) (some (.tup [AV.agg 8 [AV.int .i64 0, AV.int .i64 0, AV.int .i64 0, AV.str [], AV.bool false, AV.bool false, AV.bool false, AV.sl 2 []], AV.int .i64 31])) (getC c1 0 fun a4 => asL 8 a4 fun l5 => (ifB (decide ((1 : Int) < (List.length l5 : Int))) (some true) (getC c1 0 fun a7 => asL 8 a7 fun l8 => idx l8 0 fun c9 => getC c9 0 fun a10 => asI .i64 a10 fun n11 => some (decide ((n11 : Int) = 5))) : Option Bool).bind fun b6 => ifB b6 (some (.tup [AV.agg 8 [AV.int .i64 0, AV.int .i64 0, AV.int .i64 0, AV.str [], AV.bool false, AV.bool false, AV.bool false, AV.sl 2 []], AV.int .i64 28])) (getC c1 0 fun a12 => asL 8 a12 fun l13 => idx l13 0 fun c14 => some (.tup [AV.agg 8 c14, AV.int .i64 0])))) :=
  (run92 _).trans (by kernel_rfl)

/-! treillage/lat.Of: function 93 -/
noncomputable def d93 : FD := ⟨(Tryz.f93.body).getD .skip, Tryz.f93.results.toList, 50⟩
theorem run93 (l : List AV) : ωκ S 93 l = runM τ ann93 (ωκ S) [3] lpκ d93.code (look (argEnv 0 l)) (retV τ d93.rs) :=
  ωκ_run S 93 l d93 rfl (by show (Tryz.prog.funcs[93]?).bind toFD = _; rw [Tryz.func93]; rfl)
noncomputable def lat_Of.l0 (a0 a2 a4 a13 a14 a15 : AV) : Option AV := loopAt S 93 d93 [1, 1, 1, 0, 1, 0] (look [(0, a0), (2, a2), (4, a4), (13, a13), (14, a14), (15, a15)])
noncomputable def lat_Of.l1 (a0 a2 a4 a13 a14 a15 a30 a31 a32 : AV) : Option AV := loopAt S 93 d93 [1, 1, 1, 0, 1, 0, 0, 1, 1, 0, 0, 1, 1, 1, 1, 0] (look [(0, a0), (2, a2), (4, a4), (13, a13), (14, a14), (15, a15), (30, a30), (31, a31), (32, a32)])
theorem lat_Of.f_eq (l1 : List (List AV)) : lat_Of (AV.sl 8 l1) = (ifB (decide ((512 : Int) < (List.length l1 : Int))) (some (.tup [AV.agg 1 [AV.sl 8 []], AV.int .i64 1])) (lat_Of.l0 (AV.sl 8 l1) (AV.boxv 1 [AV.sl 8 []] [(0, AV.own 8 [])]) (AV.int .i64 1) (AV.sl 8 l1) (AV.int .i64 (List.length l1 : Int)) (AV.int .i64 0))) :=
  (run93 _).trans (by kernel_rfl)
theorem lat_Of.l0_eq (l1 : List (List AV)) (l2 : List (List AV)) (l3 : List (List AV)) (n4 : Int) (l5 : List (List AV)) (n6 : Int) (n7 : Int) : lat_Of.l0 (AV.sl 8 l1) (AV.boxv 1 [AV.sl 8 l2] [(0, AV.own 8 l3)]) (AV.int .i64 n4) (AV.sl 8 l5) (AV.int .i64 n6) (AV.int .i64 n7) = (ifB (decide ((n7 : Int) < n6)) (idx l5 n7 fun c8 => (lat_shaped (AV.agg 8 c8) (AV.int .i64 17)).bind fun r9 => asB r9 fun b10 => ifB (!b10) (some (.tup [AV.agg 1 [AV.sl 8 []], AV.int .i64 1])) ((rank_Depth (AV.agg 1 [AV.sl 8 [c8]])).bind fun r11 => asI .i64 r11 fun n12 => getC c8 7 fun a13 => asL 2 a13 fun l14 => lat_Of.l1 (AV.sl 8 l1) (AV.boxv 1 [AV.sl 8 l2] [(0, AV.own 8 l3)]) (AV.int .i64 (max (n4 : Int) n12)) (AV.sl 8 l5) (AV.int .i64 n6) (AV.int .i64 n7) (AV.sl 2 l14) (AV.int .i64 (List.length l14 : Int)) (AV.int .i64 0))) (ifB (decide ((16 : Int) < n4)) (some (.tup [AV.agg 1 [AV.sl 8 []], AV.int .i64 22])) ((lat_settle (AV.sl 8 l1)).bind fun r15 => asT2 r15 fun a16 a17 => asC 1 a16 fun c18 => asI .i64 a17 fun n19 => some (.tup [AV.agg 1 c18, AV.int .i64 n19])))) :=
  (loopAt_eq S 93 d93 [1, 1, 1, 0, 1, 0] _).trans (by kernel_rfl)
theorem lat_Of.l1_eq (l1 : List (List AV)) (l2 : List (List AV)) (l3 : List (List AV)) (n4 : Int) (l5 : List (List AV)) (n6 : Int) (n7 : Int) (l8 : List (List AV)) (n9 : Int) (n10 : Int) : lat_Of.l1 (AV.sl 8 l1) (AV.boxv 1 [AV.sl 8 l2] [(0, AV.own 8 l3)]) (AV.int .i64 n4) (AV.sl 8 l5) (AV.int .i64 n6) (AV.int .i64 n7) (AV.sl 2 l8) (AV.int .i64 n9) (AV.int .i64 n10) = (ifB (decide ((n10 : Int) < n9)) (idx l8 n10 fun c11 => getC c11 1 fun a12 => (lat_Right (AV.agg 1 [(frz a12)])).bind fun r13 => asB r13 fun b14 => ifB (!b14) (some (.tup [AV.agg 1 [AV.sl 8 []], AV.int .i64 1])) (lat_Of.l1 (AV.sl 8 l1) (AV.boxv 1 [AV.sl 8 l2] [(0, AV.own 8 l3)]) (AV.int .i64 n4) (AV.sl 8 l5) (AV.int .i64 n6) (AV.int .i64 n7) (AV.sl 2 l8) (AV.int .i64 n9) (AV.int .i64 (w64 (n10 + 1))))) (lat_Of.l0 (AV.sl 8 l1) (AV.boxv 1 [AV.sl 8 l2] [(0, AV.own 8 l3)]) (AV.int .i64 n4) (AV.sl 8 l5) (AV.int .i64 n6) (AV.int .i64 (w64 (n7 + 1))))) :=
  (loopAt_eq S 93 d93 [1, 1, 1, 0, 1, 0, 0, 1, 1, 0, 0, 1, 1, 1, 1, 0] _).trans (by kernel_rfl)

/-! treillage/fact.all: function 96 -/
noncomputable def d96 : FD := ⟨(Tryz.f96.body).getD .skip, Tryz.f96.results.toList, 25⟩
theorem run96 (l : List AV) : ωκ S 96 l = runM τ (fun _ => none) (ωκ S) [4] lpκ d96.code (look (argEnv 0 l)) (retV τ d96.rs) :=
  ωκ_run S 96 l d96 rfl (by show (Tryz.prog.funcs[96]?).bind toFD = _; rw [Tryz.func96]; rfl)
theorem fact_all.f_eq (c1 : List AV) (f2 : Nat) (c3 : List AV) : fact_all (AV.agg 1 c1) (AV.fn f2 c3) = ((fact_one (AV.agg 1 c1)).bind fun r4 => asT2 r4 fun a5 a6 => asC 8 a5 fun c7 => asI .i64 a6 fun n8 => ifB (!decide ((n8 : Int) = 0)) (some (AV.bool false)) (getC c7 0 fun a9 => asI .i64 a9 fun n10 => ifB (!decide ((n10 : Int) = 4)) ((ωκ S f2 ([AV.agg 8 c7] ++ c3)).bind fun r11 => asB r11 fun b12 => some (AV.bool b12)) (getC c7 7 fun a13 => asL 2 a13 fun l14 => (slices_ContainsFunc__Field (AV.sl 2 l14) (AV.fn 131 [AV.eptr 1 [AV.fn f2 c3] 0])).bind fun r15 => asB r15 fun b16 => some (AV.bool (!b16))))) :=
  (run96 _).trans (by kernel_rfl)

/-! treillage/scalar.Atom: function 97 -/
noncomputable def d97 : FD := ⟨(Tryz.f97.body).getD .skip, Tryz.f97.results.toList, 9⟩
theorem run97 (l : List AV) : ωκ S 97 l = runM τ (fun _ => none) (ωκ S) [2] lpκ d97.code (look (argEnv 0 l)) (retV τ d97.rs) :=
  ωκ_run S 97 l d97 rfl (by show (Tryz.prog.funcs[97]?).bind toFD = _; rw [Tryz.func97]; rfl)
theorem scalar_Atom.f_eq (c1 : List AV) : scalar_Atom (AV.agg 8 c1) = ((scalar_Right (AV.agg 8 c1)).bind fun r2 => asB r2 fun b3 => (ifB b3 ((scalar_one (AV.agg 8 c1)).bind fun r5 => asB r5 fun b6 => some b6) (some false) : Option Bool).bind fun b4 => some (AV.bool b4)) :=
  (run97 _).trans (by kernel_rfl)

/-! slices.Index[[]string,string]: function 98 -/
noncomputable def d98 : FD := ⟨(Tryz.f98.body).getD .skip, Tryz.f98.results.toList, 19⟩
theorem run98 (l : List AV) : ωκ S 98 l = runM τ ann98 (ωκ S) [4] lpκ d98.code (look (argEnv 0 l)) (retV τ d98.rs) :=
  ωκ_run S 98 l d98 rfl (by show (Tryz.prog.funcs[98]?).bind toFD = _; rw [Tryz.func98]; rfl)
noncomputable def slices_Index__string.l0 (a0 a1 a7 a8 : AV) : Option AV := loopAt S 98 d98 [1, 0, 1, 0] (look [(0, a0), (1, a1), (7, a7), (8, a8)])
theorem slices_Index__string.f_eq (l1 : List (List AV)) (s2 : List UInt8) : slices_Index__string (AV.sl 1 l1) (AV.str s2) = (slices_Index__string.l0 (AV.sl 1 l1) (AV.str s2) (AV.int .i64 (List.length l1 : Int)) (AV.int .i64 0)) :=
  (run98 _).trans (by kernel_rfl)
theorem slices_Index__string.l0_eq (l1 : List (List AV)) (s2 : List UInt8) (n3 : Int) (n4 : Int) : slices_Index__string.l0 (AV.sl 1 l1) (AV.str s2) (AV.int .i64 n3) (AV.int .i64 n4) = (ifB (decide ((n4 : Int) < n3)) (idx l1 n4 fun c5 => getC c5 0 fun a6 => asS a6 fun s7 => ifB (decide ((s2 : List UInt8) = s7)) (some (AV.int .i64 n4)) (slices_Index__string.l0 (AV.sl 1 l1) (AV.str s2) (AV.int .i64 n3) (AV.int .i64 (w64 (n4 + 1))))) (some (AV.int .i64 (-1)))) :=
  (loopAt_eq S 98 d98 [1, 0, 1, 0] _).trans (by kernel_rfl)
end Go.Proofs.YtffojfcinkihnaaGreatDoor.Abs
/- What the code comes to, function by function (printed by gen.py). -/
set_option linter.unusedVariables false
set_option linter.unusedSimpArgs false
set_option linter.unusedSectionVars false
set_option linter.deprecated false
set_option linter.unnecessarySimpa false
namespace Go.Proofs.YtffojfcinkihnaaGreatDoor.Abs
set_option linter.unusedVariables false
set_option maxRecDepth 100000

/-! treillage/treillageref08.Depth: function 108 -/
noncomputable def d108 : FD := ⟨(Tryz.f108.body).getD .skip, Tryz.f108.results.toList, 39⟩
theorem run108 (l : List AV) : ωκ S 108 l = runM τ ann108 (ωκ S) [2] lpκ d108.code (look (argEnv 0 l)) (retV τ d108.rs) :=
  ωκ_run S 108 l d108 rfl (by show (Tryz.prog.funcs[108]?).bind toFD = _; rw [Tryz.func108]; rfl)
noncomputable def ref08_Depth.l0 (a1 a3 a4 : AV) : Option AV := loopAt S 108 d108 [1, 1, 0, 1, 0] (look [(1, a1), (3, a3), (4, a4)])
noncomputable def ref08_Depth.l1 (a1 a3 a4 a5 a6 : AV) : Option AV := loopAt S 108 d108 [1, 1, 0, 1, 0, 0, 1, 0, 0, 1, 1, 0] (look [(1, a1), (3, a3), (4, a4), (5, a5), (6, a6)])
theorem ref08_Depth.f_eq (c1 : List AV) : ref08_Depth (AV.agg 1 c1) = (ref08_Depth.l0 (AV.boxv 1 c1 []) (AV.int .i64 0) (AV.int .i64 0)) :=
  (run108 _).trans (by kernel_rfl)
theorem ref08_Depth.l0_eq (c1 : List AV) (n2 : Int) (n3 : Int) : ref08_Depth.l0 (AV.boxv 1 c1 []) (AV.int .i64 n2) (AV.int .i64 n3) = (getC c1 0 fun a4 => asL 8 a4 fun l5 => ifB (decide ((n3 : Int) < (List.length l5 : Int))) (getC c1 0 fun a6 => asL 8 a6 fun l7 => idx l7 n3 fun c8 => getC c8 7 fun a9 => asL 2 a9 fun l10 => ref08_Depth.l1 (AV.boxv 1 c1 []) (AV.int .i64 n2) (AV.int .i64 n3) (AV.sl 2 l10) (AV.int .i64 0)) (some (AV.int .i64 (w64 (1 + n2))))) :=
  (loopAt_eq S 108 d108 [1, 1, 0, 1, 0] _).trans (by kernel_rfl)
theorem ref08_Depth.l1_eq (c1 : List AV) (n2 : Int) (n3 : Int) (l4 : List (List AV)) (n5 : Int) : ref08_Depth.l1 (AV.boxv 1 c1 []) (AV.int .i64 n2) (AV.int .i64 n3) (AV.sl 2 l4) (AV.int .i64 n5) = (ifB (decide ((n5 : Int) < (List.length l4 : Int))) (idx l4 n5 fun c6 => getC c6 1 fun a7 => (ref08_Depth (AV.agg 1 [a7])).bind fun r8 => asI .i64 r8 fun n9 => ifB (decide ((n2 : Int) < n9)) (ref08_Depth.l1 (AV.boxv 1 c1 []) (AV.int .i64 n9) (AV.int .i64 n3) (AV.sl 2 l4) (AV.int .i64 (w64 (n5 + 1)))) (ref08_Depth.l1 (AV.boxv 1 c1 []) (AV.int .i64 n2) (AV.int .i64 n3) (AV.sl 2 l4) (AV.int .i64 (w64 (n5 + 1))))) (ref08_Depth.l0 (AV.boxv 1 c1 []) (AV.int .i64 n2) (AV.int .i64 (w64 (n3 + 1))))) :=
  (loopAt_eq S 108 d108 [1, 1, 0, 1, 0, 0, 1, 0, 0, 1, 1, 0] _).trans (by kernel_rfl)

/-! treillage/treillageref09.Term: function 109 -/
noncomputable def d109 : FD := ⟨(Tryz.f109.body).getD .skip, Tryz.f109.results.toList, 75⟩
theorem run109 (l : List AV) : ωκ S 109 l = runM τ ann109 (ωκ S) [2] lpκ d109.code (look (argEnv 0 l)) (retV τ d109.rs) :=
  ωκ_run S 109 l d109 rfl (by show (Tryz.prog.funcs[109]?).bind toFD = _; rw [Tryz.func109]; rfl)
noncomputable def ref09_Term.l0 (a1 a3 : AV) : Option AV := loopAt S 109 d109 [1, 1, 1, 1, 0, 1, 0] (look [(1, a1), (3, a3)])
theorem ref09_Term.f_eq (c1 : List AV) : ref09_Term (AV.agg 8 c1) = (getC c1 0 fun a2 => asI .i64 a2 fun n3 => ifB (decide ((n3 : Int) = 5)) ((ref08_Terms (AV.agg 8 c1) (AV.agg 8 [AV.int .i64 5, AV.int .i64 0, AV.int .i64 0, AV.str [], AV.bool false, AV.bool false, AV.bool false, AV.sl 2 []])).bind fun r4 => asI .i64 r4 fun n5 => some (AV.bool (decide ((n5 : Int) = 0)))) (getC c1 0 fun a6 => asI .i64 a6 fun n7 => ifB (!decide ((n7 : Int) = 4)) ((ref07_Right (AV.agg 8 c1)).bind fun r8 => asB r8 fun b9 => some (AV.bool b9)) (getC c1 1 fun a10 => asI .i64 a10 fun n11 => (ifB (!decide ((n11 : Int) = 0)) (some true) (getC c1 2 fun a13 => asI .i64 a13 fun n14 => some (!decide ((n14 : Int) = 0))) : Option Bool).bind fun b12 => (ifB b12 (some true) (getC c1 3 fun a16 => asS a16 fun s17 => some (!decide ((s17 : List UInt8) = []))) : Option Bool).bind fun b15 => (ifB b15 (some true) (getC c1 4 fun a19 => asB a19 fun b20 => some b20) : Option Bool).bind fun b18 => (ifB b18 (some true) (getC c1 5 fun a22 => asB a22 fun b23 => some b23) : Option Bool).bind fun b21 => (ifB b21 (some true) (getC c1 7 fun a25 => asL 2 a25 fun l26 => some (decide ((32 : Int) < (List.length l26 : Int)))) : Option Bool).bind fun b24 => (ifB b24 (some true) (getC c1 7 fun a28 => asL 2 a28 fun l29 => (ref09_names (AV.sl 2 l29)).bind fun r30 => asB r30 fun b31 => some (!b31)) : Option Bool).bind fun b27 => ifB b27 (some (AV.bool false)) (ref09_Term.l0 (AV.boxv 8 c1 []) (AV.int .i64 0))))) :=
  (run109 _).trans (by kernel_rfl)
theorem ref09_Term.l0_eq (c1 : List AV) (n2 : Int) : ref09_Term.l0 (AV.boxv 8 c1 []) (AV.int .i64 n2) = (getC c1 7 fun a3 => asL 2 a3 fun l4 => ifB (decide ((n2 : Int) < (List.length l4 : Int))) (getC c1 7 fun a5 => asL 2 a5 fun l6 => idx l6 n2 fun c7 => getC c7 1 fun a8 => asL 8 a8 fun l9 => (ifB (decide (((List.length l9 : Int) : Int) = 0)) (some true) (getC c1 7 fun a11 => asL 2 a11 fun l12 => idx l12 n2 fun c13 => getC c13 1 fun a14 => (ref09_Right (AV.agg 1 [a14])).bind fun r15 => asB r15 fun b16 => some (!b16)) : Option Bool).bind fun b10 => ifB b10 (some (AV.bool false)) (ref09_Term.l0 (AV.boxv 8 c1 []) (AV.int .i64 (w64 (n2 + 1))))) (some (AV.bool true))) :=
  (loopAt_eq S 109 d109 [1, 1, 1, 1, 0, 1, 0] _).trans (by kernel_rfl)

/-! treillage/treillageref09.under: function 110 -/
noncomputable def d110 : FD := ⟨(Tryz.f110.body).getD .skip, Tryz.f110.results.toList, 85⟩
theorem run110 (l : List AV) : ωκ S 110 l = runM τ ann110 (ωκ S) [4] lpκ d110.code (look (argEnv 0 l)) (retV τ d110.rs) :=
  ωκ_run S 110 l d110 rfl (by show (Tryz.prog.funcs[110]?).bind toFD = _; rw [Tryz.func110]; rfl)
noncomputable def ref09_under.l0 (a2 a3 a5 : AV) : Option AV := loopAt S 110 d110 [1, 1, 1, 1, 0, 1, 0] (look [(2, a2), (3, a3), (5, a5)])
noncomputable def ref09_under.l1 (a2 a3 a6 : AV) : Option AV := loopAt S 110 d110 [1, 1, 1, 1, 1, 0, 1, 0] (look [(2, a2), (3, a3), (6, a6)])
theorem ref09_under.f_eq (c1 : List AV) (c2 : List AV) : ref09_under (AV.agg 8 c1) (AV.agg 8 c2) = (getC c2 0 fun a3 => asI .i64 a3 fun n4 => ifB (decide ((n4 : Int) = 5)) (some (AV.bool true)) (getC c1 0 fun a5 => asI .i64 a5 fun n6 => (ifB (!decide ((n6 : Int) = 4)) (some true) (getC c2 0 fun a8 => asI .i64 a8 fun n9 => some (!decide ((n9 : Int) = 4))) : Option Bool).bind fun b7 => ifB b7 ((ref07_Below (AV.agg 8 c1) (AV.agg 8 c2)).bind fun r10 => asB r10 fun b11 => some (AV.bool b11)) (getC c1 6 fun a12 => asB a12 fun b13 => (ifB b13 (getC c2 6 fun a15 => asB a15 fun b16 => some (!b16)) (some false) : Option Bool).bind fun b14 => ifB b14 (some (AV.bool false)) (ref09_under.l0 (AV.boxv 8 c1 []) (AV.boxv 8 c2 []) (AV.int .i64 0))))) :=
  (run110 _).trans (by kernel_rfl)
theorem ref09_under.l0_eq (c1 : List AV) (c2 : List AV) (n3 : Int) : ref09_under.l0 (AV.boxv 8 c1 []) (AV.boxv 8 c2 []) (AV.int .i64 n3) = (getC c1 7 fun a4 => asL 2 a4 fun l5 => (ifB (decide ((n3 : Int) < (List.length l5 : Int))) (getC c2 6 fun a7 => asB a7 fun b8 => some (!b8)) (some false) : Option Bool).bind fun b6 => ifB b6 (getC c2 7 fun a9 => asL 2 a9 fun l10 => getC c1 7 fun a11 => asL 2 a11 fun l12 => idx l12 n3 fun c13 => getC c13 0 fun a14 => asS a14 fun s15 => (ref09_Find (AV.sl 2 l10) (AV.str s15)).bind fun r16 => asI .i64 r16 fun n17 => ifB (decide ((n17 : Int) < 0)) (some (AV.bool false)) (ref09_under.l0 (AV.boxv 8 c1 []) (AV.boxv 8 c2 []) (AV.int .i64 (w64 (n3 + 1))))) (ref09_under.l1 (AV.boxv 8 c1 []) (AV.boxv 8 c2 []) (AV.int .i64 0))) :=
  (loopAt_eq S 110 d110 [1, 1, 1, 1, 0, 1, 0] _).trans (by kernel_rfl)
theorem ref09_under.l1_eq (c1 : List AV) (c2 : List AV) (n3 : Int) : ref09_under.l1 (AV.boxv 8 c1 []) (AV.boxv 8 c2 []) (AV.int .i64 n3) = (getC c2 7 fun a4 => asL 2 a4 fun l5 => ifB (decide ((n3 : Int) < (List.length l5 : Int))) (getC c1 7 fun a6 => asL 2 a6 fun l7 => getC c2 7 fun a8 => asL 2 a8 fun l9 => idx l9 n3 fun c10 => getC c10 0 fun a11 => asS a11 fun s12 => (ref09_Find (AV.sl 2 l7) (AV.str s12)).bind fun r13 => asI .i64 r13 fun n14 => (ifB (decide ((n14 : Int) < 0)) (some true) (getC c1 7 fun a16 => asL 2 a16 fun l17 => idx l17 n14 fun c18 => getC c18 1 fun a19 => getC c2 7 fun a20 => asL 2 a20 fun l21 => idx l21 n3 fun c22 => getC c22 1 fun a23 => (ref09_Under (AV.agg 1 [a19]) (AV.agg 1 [a23])).bind fun r24 => asB r24 fun b25 => some (!b25)) : Option Bool).bind fun b15 => ifB b15 (some (AV.bool false)) (ref09_under.l1 (AV.boxv 8 c1 []) (AV.boxv 8 c2 []) (AV.int .i64 (w64 (n3 + 1))))) (some (AV.bool true))) :=
  (loopAt_eq S 110 d110 [1, 1, 1, 1, 1, 0, 1, 0] _).trans (by kernel_rfl)

/-! treillage/treillageref07.Single: function 111 -/
noncomputable def d111 : FD := ⟨(Tryz.f111.body).getD .skip, Tryz.f111.results.toList, 14⟩
theorem run111 (l : List AV) : ωκ S 111 l = runM τ (fun _ => none) (ωκ S) [2] lpκ d111.code (look (argEnv 0 l)) (retV τ d111.rs) :=
  ωκ_run S 111 l d111 rfl (by show (Tryz.prog.funcs[111]?).bind toFD = _; rw [Tryz.func111]; rfl)
theorem ref07_Single.f_eq (c1 : List AV) : ref07_Single (AV.agg 8 c1) = (getC c1 0 fun a2 => asI .i64 a2 fun n3 => ifB (decide ((n3 : Int) = 3)) (getC c1 4 fun a4 => asB a4 fun b5 => some (AV.bool (!b5))) (getC c1 1 fun a6 => asI .i64 a6 fun n7 => getC c1 2 fun a8 => asI .i64 a8 fun n9 => some (AV.bool (decide ((n7 : Int) = n9))))) :=
  (run111 _).trans (by kernel_rfl)

/-! treillage/treillageref02.Word: function 112 -/
noncomputable def d112 : FD := ⟨(Tryz.f112.body).getD .skip, Tryz.f112.results.toList, 22⟩
theorem run112 (l : List AV) : ωκ S 112 l = runM τ (fun _ => none) (ωκ S) [2] lpκ d112.code (look (argEnv 0 l)) (retV τ d112.rs) :=
  ωκ_run S 112 l d112 rfl (by show (Tryz.prog.funcs[112]?).bind toFD = _; rw [Tryz.func112]; rfl)
theorem ref02_Word.f_eq (s1 : List UInt8) : ref02_Word (AV.str s1) = (ifB (decide ((s1 : List UInt8) = [97, 110, 121])) (some (AV.int .i64 1)) (ifB (decide ((s1 : List UInt8) = [98, 111, 111, 108])) (some (AV.int .i64 2)) (ifB (decide ((s1 : List UInt8) = [99, 111, 109, 112, 117, 116, 101, 100])) (some (AV.int .i64 3)) (ifB (decide ((s1 : List UInt8) = [102, 97, 108, 115, 101])) (some (AV.int .i64 4)) (ifB (decide ((s1 : List UInt8) = [105, 110, 116])) (some (AV.int .i64 5)) (ifB (decide ((s1 : List UInt8) = [110, 111, 110, 101])) (some (AV.int .i64 6)) (ifB (decide ((s1 : List UInt8) = [114, 101, 115, 111, 117, 114, 99, 101])) (some (AV.int .i64 7)) (ifB (decide ((s1 : List UInt8) = [115, 116, 114, 105, 110, 103])) (some (AV.int .i64 8)) (ifB (decide ((s1 : List UInt8) = [116, 114, 117, 101])) (some (AV.int .i64 9)) (some (AV.int .i64 0))))))))))) :=
  (run112 _).trans (by kernel_rfl)

/-! treillage/treillageref17.Put: function 113 -/
noncomputable def d113 : FD := ⟨(Tryz.f113.body).getD .skip, Tryz.f113.results.toList, 46⟩
theorem run113 (l : List AV) : ωκ S 113 l = runM τ ann113 (ωκ S) [4] lpκ d113.code (look (argEnv 0 l)) (retV τ d113.rs) :=
  ωκ_run S 113 l d113 rfl (by show (Tryz.prog.funcs[113]?).bind toFD = _; rw [Tryz.func113]; rfl)
noncomputable def ref17_Put.l0 (a0 a1 a5 a6 a7 : AV) : Option AV := loopAt S 113 d113 [1, 1, 1, 1, 0, 1, 0] (look [(0, a0), (1, a1), (5, a5), (6, a6), (7, a7)])
noncomputable def ref17_Put.j1 (a0 a1 a5 a6 a7 : AV) : Option AV := joinAt S 113 d113 [1, 1, 1, 1, 0, 1, 0, 0, 1, 0, 0] (look [(0, a0), (1, a1), (5, a5), (6, a6), (7, a7)])
theorem ref17_Put.f_eq (l1 : List (List AV)) (s2 : List UInt8) : ref17_Put (AV.sl 1 l1) (AV.str s2) = ((ref17_Has (AV.sl 1 l1) (AV.str s2)).bind fun r3 => asB r3 fun b4 => ifB b4 (some (AV.sl 1 l1)) (ref17_Put.l0 (AV.sl 1 l1) (AV.str s2) (AV.own 1 []) (AV.bool false) (AV.int .i64 0))) :=
  (run113 _).trans (by kernel_rfl)
theorem ref17_Put.l0_eq (l1 : List (List AV)) (s2 : List UInt8) (l3 : List (List AV)) (n4 : Int) : ref17_Put.l0 (AV.sl 1 l1) (AV.str s2) (AV.own 1 l3) (AV.bool false) (AV.int .i64 n4) = (ifB (decide ((n4 : Int) < (List.length l1 : Int))) ((idx l1 n4 fun c6 => getC c6 0 fun a7 => asS a7 fun s8 => some (bytesLt s2 s8) : Option Bool).bind fun b5 => ifB b5 (guardK (Nat.ble (List.length l3 + List.length ([[AV.str s2]])) lim) <| ref17_Put.j1 (AV.sl 1 l1) (AV.str s2) (AV.own 1 (l3 ++ ([[AV.str s2]]))) (AV.bool true) (AV.int .i64 n4)) (ref17_Put.j1 (AV.sl 1 l1) (AV.str s2) (AV.own 1 l3) (AV.bool false) (AV.int .i64 n4))) (guardK (Nat.ble (List.length l3 + List.length ([[AV.str s2]])) lim) <| some (AV.own 1 (l3 ++ ([[AV.str s2]]))))) :=
  (loopAt_eq S 113 d113 [1, 1, 1, 1, 0, 1, 0] _).trans (by kernel_rfl)
theorem ref17_Put.j1_eq (l1 : List (List AV)) (s2 : List UInt8) (l3 : List (List AV)) (n4 : Int) : ref17_Put.j1 (AV.sl 1 l1) (AV.str s2) (AV.own 1 l3) (AV.bool true) (AV.int .i64 n4) = (idx l1 n4 fun c5 => getC c5 0 fun a6 => asS a6 fun s7 => guardK (Nat.ble (List.length l3 + List.length ([[AV.str s7]])) lim) <| ref17_Put.l0 (AV.sl 1 l1) (AV.str s2) (AV.own 1 (l3 ++ ([[AV.str s7]]))) (AV.bool true) (AV.int .i64 (w64 (n4 + 1)))) :=
  (joinAt_eq S 113 d113 [1, 1, 1, 1, 0, 1, 0, 0, 1, 0, 0] _).trans (by kernel_rfl)
theorem ref17_Put.j1_eq2 (l1 : List (List AV)) (s2 : List UInt8) (l3 : List (List AV)) (n4 : Int) : ref17_Put.j1 (AV.sl 1 l1) (AV.str s2) (AV.own 1 l3) (AV.bool false) (AV.int .i64 n4) = (idx l1 n4 fun c5 => getC c5 0 fun a6 => asS a6 fun s7 => guardK (Nat.ble (List.length l3 + List.length ([[AV.str s7]])) lim) <| ref17_Put.l0 (AV.sl 1 l1) (AV.str s2) (AV.own 1 (l3 ++ ([[AV.str s7]]))) (AV.bool false) (AV.int .i64 (w64 (n4 + 1)))) :=
  (joinAt_eq S 113 d113 [1, 1, 1, 1, 0, 1, 0, 0, 1, 0, 0] _).trans (by kernel_rfl)
theorem ref17_Put.l0_eq2 (l1 : List (List AV)) (s2 : List UInt8) (l3 : List (List AV)) (n4 : Int) : ref17_Put.l0 (AV.sl 1 l1) (AV.str s2) (AV.own 1 l3) (AV.bool true) (AV.int .i64 n4) = (ifB (decide ((n4 : Int) < (List.length l1 : Int))) (ref17_Put.j1 (AV.sl 1 l1) (AV.str s2) (AV.own 1 l3) (AV.bool true) (AV.int .i64 n4)) (some (AV.own 1 l3))) :=
  (loopAt_eq S 113 d113 [1, 1, 1, 1, 0, 1, 0] _).trans (by kernel_rfl)

/-! treillage/rank.lists[treillage/api.Term]: function 114 -/
noncomputable def d114 : FD := ⟨(Tryz.f114.body).getD .skip, Tryz.f114.results.toList, 36⟩
theorem run114 (l : List AV) : ωκ S 114 l = runM τ ann114 (ωκ S) [6] lpκ d114.code (look (argEnv 0 l)) (retV τ d114.rs) :=
  ωκ_run S 114 l d114 rfl (by show (Tryz.prog.funcs[114]?).bind toFD = _; rw [Tryz.func114]; rfl)
noncomputable def rank_lists__Term.l0 (a0 a1 a2 a13 a14 : AV) : Option AV := loopAt S 114 d114 [1, 0, 1, 0] (look [(0, a0), (1, a1), (2, a2), (13, a13), (14, a14)])
theorem rank_lists__Term.f_eq (l1 : List (List AV)) (l2 : List (List AV)) (f3 : Nat) (c4 : List AV) : rank_lists__Term (AV.sl 8 l1) (AV.sl 8 l2) (AV.fn f3 c4) = (rank_lists__Term.l0 (AV.sl 8 l1) (AV.sl 8 l2) (AV.fn f3 c4) (AV.int .i64 (min ((List.length l1 : Int) : Int) (List.length l2 : Int))) (AV.int .i64 0)) :=
  (run114 _).trans (by kernel_rfl)
theorem rank_lists__Term.l0_eq (l1 : List (List AV)) (l2 : List (List AV)) (f3 : Nat) (c4 : List AV) (n5 : Int) (n6 : Int) : rank_lists__Term.l0 (AV.sl 8 l1) (AV.sl 8 l2) (AV.fn f3 c4) (AV.int .i64 n5) (AV.int .i64 n6) = (ifB (decide ((n6 : Int) < n5)) (idx l1 n6 fun c7 => idx l2 n6 fun c8 => (ωκ S f3 ([AV.agg 8 c7, AV.agg 8 c8] ++ c4)).bind fun r9 => asI .i64 r9 fun n10 => ifB (!decide ((n10 : Int) = 0)) (some (AV.int .i64 n10)) (rank_lists__Term.l0 (AV.sl 8 l1) (AV.sl 8 l2) (AV.fn f3 c4) (AV.int .i64 n5) (AV.int .i64 (w64 (n6 + 1))))) ((cmp_Compare__int (AV.int .i64 (List.length l1 : Int)) (AV.int .i64 (List.length l2 : Int))).bind fun r11 => asI .i64 r11 fun n12 => some (AV.int .i64 n12))) :=
  (loopAt_eq S 114 d114 [1, 0, 1, 0] _).trans (by kernel_rfl)

/-! treillage/rank.Terms: function 115 -/
noncomputable def d115 : FD := ⟨(Tryz.f115.body).getD .skip, Tryz.f115.results.toList, 53⟩
theorem run115 (l : List AV) : ωκ S 115 l = runM τ (fun _ => none) (ωκ S) [4] lpκ d115.code (look (argEnv 0 l)) (retV τ d115.rs) :=
  ωκ_run S 115 l d115 rfl (by show (Tryz.prog.funcs[115]?).bind toFD = _; rw [Tryz.func115]; rfl)
theorem rank_Terms.f_eq (c1 : List AV) (c2 : List AV) : rank_Terms (AV.agg 8 c1) (AV.agg 8 c2) = (getC c1 0 fun a3 => asI .i64 a3 fun n4 => getC c2 0 fun a5 => asI .i64 a5 fun n6 => (cmp_Compare__int (AV.int .i64 n4) (AV.int .i64 n6)).bind fun r7 => asI .i64 r7 fun n8 => getC c1 1 fun a9 => asI .i64 a9 fun n10 => getC c2 1 fun a11 => asI .i64 a11 fun n12 => (cmp_Compare__int (AV.int .i64 n10) (AV.int .i64 n12)).bind fun r13 => asI .i64 r13 fun n14 => getC c1 2 fun a15 => asI .i64 a15 fun n16 => getC c2 2 fun a17 => asI .i64 a17 fun n18 => (cmp_Compare__int (AV.int .i64 n16) (AV.int .i64 n18)).bind fun r19 => asI .i64 r19 fun n20 => getC c1 3 fun a21 => asS a21 fun s22 => getC c2 3 fun a23 => asS a23 fun s24 => (strings_Compare (AV.str s22) (AV.str s24)).bind fun r25 => asI .i64 r25 fun n26 => getC c1 4 fun a27 => asB a27 fun b28 => (rank_flag (AV.bool b28)).bind fun r29 => asI .i64 r29 fun n30 => getC c2 4 fun a31 => asB a31 fun b32 => (rank_flag (AV.bool b32)).bind fun r33 => asI .i64 r33 fun n34 => getC c1 5 fun a35 => asB a35 fun b36 => (rank_flag (AV.bool b36)).bind fun r37 => asI .i64 r37 fun n38 => getC c2 5 fun a39 => asB a39 fun b40 => (rank_flag (AV.bool b40)).bind fun r41 => asI .i64 r41 fun n42 => getC c1 6 fun a43 => asB a43 fun b44 => (rank_flag (AV.bool b44)).bind fun r45 => asI .i64 r45 fun n46 => getC c2 6 fun a47 => asB a47 fun b48 => (rank_flag (AV.bool b48)).bind fun r49 => asI .i64 r49 fun n50 => getC c1 7 fun a51 => asL 2 a51 fun l52 => getC c2 7 fun a53 => asL 2 a53 fun l54 => (rank_lists__Field (AV.sl 2 l52) (AV.sl 2 l54) (AV.fn 152 [])).bind fun r55 => asI .i64 r55 fun n56 => (rank_first (AV.sl 1 ([[AV.int .i64 n8], [AV.int .i64 n14], [AV.int .i64 n20], [AV.int .i64 n26], [AV.int .i64 (w64 (n30 - n34))], [AV.int .i64 (w64 (n38 - n42))], [AV.int .i64 (w64 (n46 - n50))], [AV.int .i64 n56]]))).bind fun r57 => asI .i64 r57 fun n58 => some (AV.int .i64 n58)) :=
  (run115 _).trans (by kernel_rfl)

/-! treillage/fact.Ready$1: function 116 -/
noncomputable def d116 : FD := ⟨(Tryz.f116.body).getD .skip, Tryz.f116.results.toList, 9⟩
theorem run116 (l : List AV) : ωκ S 116 l = runM τ (fun _ => none) (ωκ S) [2] lpκ d116.code (look (argEnv 0 l)) (retV τ d116.rs) :=
  ωκ_run S 116 l d116 rfl (by show (Tryz.prog.funcs[116]?).bind toFD = _; rw [Tryz.func116]; rfl)
theorem fact_Ready_1.f_eq (c1 : List AV) : fact_Ready_1 (AV.agg 8 c1) = (getC c1 5 fun a2 => asB a2 fun b3 => (ifB b3 (some true) ((scalar_Atom (AV.agg 8 c1)).bind fun r5 => asB r5 fun b6 => some b6) : Option Bool).bind fun b4 => some (AV.bool b4)) :=
  (run116 _).trans (by kernel_rfl)
end Go.Proofs.YtffojfcinkihnaaGreatDoor.Abs
