/- What the code comes to, function by function (printed by gen.py). -/
import Derived.Test.YtffojfcinkihnaaGreatDoorAbsT
set_option linter.unusedVariables false
set_option linter.unusedSimpArgs false
set_option linter.unusedSectionVars false
set_option linter.deprecated false
set_option linter.unnecessarySimpa false
namespace Go.Proofs.YtffojfcinkihnaaGreatDoor.Abs
set_option linter.unusedVariables false
set_option maxRecDepth 100000

/-! treillage/treillagelaw30.StateRights: function 4 -/
noncomputable def d4 : FD := ⟨(Tryz.f4.body).getD .skip, Tryz.f4.results.toList, 47⟩
theorem run4 (l : List AV) : ωκ S 4 l = runM τ (fun _ => none) (ωκ S) [6] lpκ d4.code (look (argEnv 0 l)) (retV τ d4.rs) :=
  ωκ_run S 4 l d4 rfl (by show (Tryz.prog.funcs[4]?).bind toFD = _; rw [Tryz.func4]; rfl)
theorem law30_StateRights.f_eq (l1 : List (List AV)) (l2 : List (List AV)) (s3 : List UInt8) : law30_StateRights (AV.sl 3 l1) (AV.sl 3 l2) (AV.str s3) = ((law30_Few (AV.sl 3 l1)).bind fun r4 => asB r4 fun b5 => (ifB (!b5) (some true) ((law30_Few (AV.sl 3 l2)).bind fun r7 => asB r7 fun b8 => some (!b8)) : Option Bool).bind fun b6 => (ifB b6 (some true) (some (decide ((100 : Int) < (List.length s3 : Int)))) : Option Bool).bind fun b9 => ifB b9 (law30_awake.bind fun r10 => asB r10 fun b11 => some (AV.bool b11)) (law30_awake.bind fun r12 => asB r12 fun b13 => (ifB b13 ((state_Right (AV.sl 3 l1)).bind fun r15 => asB r15 fun b16 => (ref30_Right (AV.sl 3 l1)).bind fun r17 => asB r17 fun b18 => some (b16 == b18)) (some false) : Option Bool).bind fun b14 => (ifB b14 ((state_Same (AV.sl 3 l1) (AV.sl 3 l2)).bind fun r20 => asB r20 fun b21 => (ref29_Things (AV.sl 3 l1) (AV.sl 3 l2)).bind fun r22 => asB r22 fun b23 => some (b21 == b23)) (some false) : Option Bool).bind fun b19 => (ifB b19 ((state_Find (AV.sl 3 l1) (AV.str s3)).bind fun r25 => asI .i64 r25 fun n26 => (ref30_Find (AV.sl 3 l1) (AV.str s3)).bind fun r27 => asI .i64 r27 fun n28 => some (decide ((n26 : Int) = n28))) (some false) : Option Bool).bind fun b24 => some (AV.bool b24))) :=
  (run4 _).trans (by kernel_rfl)

/-! treillage/treillagelaw35.ApplyDoes: function 5 -/
noncomputable def d5 : FD := ⟨(Tryz.f5.body).getD .skip, Tryz.f5.results.toList, 67⟩
theorem run5 (l : List AV) : ωκ S 5 l = runM τ (fun _ => none) (ωκ S) [6] lpκ d5.code (look (argEnv 0 l)) (retV τ d5.rs) :=
  ωκ_run S 5 l d5 rfl (by show (Tryz.prog.funcs[5]?).bind toFD = _; rw [Tryz.func5]; rfl)
theorem law35_ApplyDoes.f_eq (l1 : List (List AV)) (l2 : List (List AV)) (l3 : List (List AV)) : law35_ApplyDoes (AV.sl 3 l1) (AV.sl 4 l2) (AV.sl 1 l3) = ((law30_Few (AV.sl 3 l1)).bind fun r4 => asB r4 fun b5 => (ifB (!b5) (some true) ((law33_Few (AV.sl 4 l2)).bind fun r7 => asB r7 fun b8 => some (!b8)) : Option Bool).bind fun b6 => (ifB b6 (some true) (some (decide ((60 : Int) < (List.length l3 : Int)))) : Option Bool).bind fun b9 => ifB b9 (law35_awake.bind fun r10 => asB r10 fun b11 => some (AV.bool b11)) ((apply_Actions (AV.sl 3 l1) (AV.sl 4 l2) (AV.sl 1 l3)).bind fun r12 => asT3 r12 fun a13 a14 a15 => asL 3 a13 fun l16 => asI .i64 a14 fun n17 => asI .i64 a15 fun n18 => (ref35_Actions (AV.sl 3 l1) (AV.sl 4 l2) (AV.sl 1 l3)).bind fun r19 => asT3 r19 fun a20 a21 a22 => asL 3 a20 fun l23 => asI .i64 a21 fun n24 => asI .i64 a22 fun n25 => law35_awake.bind fun r26 => asB r26 fun b27 => (ifB b27 ((ref29_Things (AV.sl 3 l16) (AV.sl 3 l23)).bind fun r29 => asB r29 fun b30 => some b30) (some false) : Option Bool).bind fun b28 => (ifB b28 (some (decide ((n17 : Int) = n24))) (some false) : Option Bool).bind fun b31 => (ifB b31 (some (decide ((n18 : Int) = n25))) (some false) : Option Bool).bind fun b32 => (ifB b32 ((ifB (!decide ((n18 : Int) = 0)) (some true) ((ref30_Right (AV.sl 3 l16)).bind fun r35 => asB r35 fun b36 => some b36) : Option Bool).bind fun b34 => some b34) (some false) : Option Bool).bind fun b33 => some (AV.bool b33))) :=
  (run5 _).trans (by kernel_rfl)

/-! treillage/treillagelaw30.Few: function 6 -/
noncomputable def d6 : FD := ⟨(Tryz.f6.body).getD .skip, Tryz.f6.results.toList, 59⟩
theorem run6 (l : List AV) : ωκ S 6 l = runM τ ann6 (ωκ S) [2] lpκ d6.code (look (argEnv 0 l)) (retV τ d6.rs) :=
  ωκ_run S 6 l d6 rfl (by show (Tryz.prog.funcs[6]?).bind toFD = _; rw [Tryz.func6]; rfl)
noncomputable def law30_Few.l0 (a0 a3 : AV) : Option AV := loopAt S 6 d6 [1, 1, 0, 1, 0] (look [(0, a0), (3, a3)])
noncomputable def law30_Few.l1 (a0 a3 a4 : AV) : Option AV := loopAt S 6 d6 [1, 1, 0, 1, 0, 0, 1, 0, 0, 1, 1, 0] (look [(0, a0), (3, a3), (4, a4)])
theorem law30_Few.f_eq (l1 : List (List AV)) : law30_Few (AV.sl 3 l1) = (ifB (decide ((12 : Int) < (List.length l1 : Int))) (some (AV.bool false)) (law30_Few.l0 (AV.sl 3 l1) (AV.int .i64 0))) :=
  (run6 _).trans (by kernel_rfl)
theorem law30_Few.l0_eq (l1 : List (List AV)) (n2 : Int) : law30_Few.l0 (AV.sl 3 l1) (AV.int .i64 n2) = (ifB (decide ((n2 : Int) < (List.length l1 : Int))) (idx l1 n2 fun c3 => getC c3 0 fun a4 => asS a4 fun s5 => (ifB (decide ((100 : Int) < (List.length s5 : Int))) (some true) (idx l1 n2 fun c7 => getC c7 2 fun a8 => asL 1 a8 fun l9 => some (decide ((20 : Int) < (List.length l9 : Int)))) : Option Bool).bind fun b6 => (ifB b6 (some true) (idx l1 n2 fun c11 => getC c11 1 fun a12 => (law09_Few (AV.agg 1 [a12])).bind fun r13 => asB r13 fun b14 => some (!b14)) : Option Bool).bind fun b10 => ifB b10 (some (AV.bool false)) (law30_Few.l1 (AV.sl 3 l1) (AV.int .i64 n2) (AV.int .i64 0))) (some (AV.bool true))) :=
  (loopAt_eq S 6 d6 [1, 1, 0, 1, 0] _).trans (by kernel_rfl)
theorem law30_Few.l1_eq (l1 : List (List AV)) (n2 : Int) (n3 : Int) : law30_Few.l1 (AV.sl 3 l1) (AV.int .i64 n2) (AV.int .i64 n3) = (idx l1 n2 fun c4 => getC c4 2 fun a5 => asL 1 a5 fun l6 => ifB (decide ((n3 : Int) < (List.length l6 : Int))) (idx l1 n2 fun c7 => getC c7 2 fun a8 => asL 1 a8 fun l9 => idx l9 n3 fun c10 => getC c10 0 fun a11 => asS a11 fun s12 => ifB (decide ((100 : Int) < (List.length s12 : Int))) (some (AV.bool false)) (law30_Few.l1 (AV.sl 3 l1) (AV.int .i64 n2) (AV.int .i64 (w64 (n3 + 1))))) (law30_Few.l0 (AV.sl 3 l1) (AV.int .i64 (w64 (n2 + 1))))) :=
  (loopAt_eq S 6 d6 [1, 1, 0, 1, 0, 0, 1, 0, 0, 1, 1, 0] _).trans (by kernel_rfl)

/-! treillage/treillagelaw30.awake: function 7 -/
noncomputable def d7 : FD := ⟨(Tryz.f7.body).getD .skip, Tryz.f7.results.toList, 30⟩
theorem run7 (l : List AV) : ωκ S 7 l = runM τ (fun _ => none) (ωκ S) [0] lpκ d7.code (look (argEnv 0 l)) (retV τ d7.rs) :=
  ωκ_run S 7 l d7 rfl (by show (Tryz.prog.funcs[7]?).bind toFD = _; rw [Tryz.func7]; rfl)
theorem law30_awake.f_eq  : law30_awake = ((state_Encode (AV.sl 3 [])).bind fun r1 => asT2 r1 fun a2 a3 => asS a2 fun s4 => asI .i64 a3 fun n5 => (ifB (decide ((s4 : List UInt8) = [0])) (some (decide ((n5 : Int) = 0))) (some false) : Option Bool).bind fun b6 => (ifB b6 ((state_Right (AV.sl 3 ([[AV.str [97], AV.sl 8 ([[AV.int .i64 4, AV.int .i64 0, AV.int .i64 0, AV.str [], AV.bool false, AV.bool false, AV.bool false, AV.sl 2 []]]), AV.sl 1 ([[AV.str [98]]])]]))).bind fun r8 => asB r8 fun b9 => some b9) (some false) : Option Bool).bind fun b7 => (ifB b7 ((state_Find (AV.sl 3 ([[AV.str [97], AV.sl 8 ([[AV.int .i64 4, AV.int .i64 0, AV.int .i64 0, AV.str [], AV.bool false, AV.bool false, AV.bool false, AV.sl 2 []]]), AV.sl 1 ([[AV.str [98]]])]])) (AV.str [97])).bind fun r11 => asI .i64 r11 fun n12 => some (decide ((n12 : Int) = 0))) (some false) : Option Bool).bind fun b10 => some (AV.bool b10)) :=
  (run7 _).trans (by kernel_rfl)

/-! treillage/treillageref30.Put: function 8 -/
noncomputable def d8 : FD := ⟨(Tryz.f8.body).getD .skip, Tryz.f8.results.toList, 49⟩
theorem run8 (l : List AV) : ωκ S 8 l = runM τ ann8 (ωκ S) [4] lpκ d8.code (look (argEnv 0 l)) (retV τ d8.rs) :=
  ωκ_run S 8 l d8 rfl (by show (Tryz.prog.funcs[8]?).bind toFD = _; rw [Tryz.func8]; rfl)
noncomputable def ref30_Put.l0 (a3 a5 a6 a7 a8 : AV) : Option AV := loopAt S 8 d8 [1, 1, 1, 1, 0, 1, 0] (look [(3, a3), (5, a5), (6, a6), (7, a7), (8, a8)])
noncomputable def ref30_Put.j1 (a3 a5 a6 a7 a8 : AV) : Option AV := joinAt S 8 d8 [1, 1, 1, 1, 0, 1, 0, 0, 1, 0, 0] (look [(3, a3), (5, a5), (6, a6), (7, a7), (8, a8)])
theorem ref30_Put.f_eq (l1 : List (List AV)) (c2 : List AV) : ref30_Put (AV.sl 3 l1) (AV.agg 3 c2) = (getC c2 0 fun a3 => asS a3 fun s4 => (ref30_Drop (AV.sl 3 l1) (AV.str s4)).bind fun r5 => asL 3 r5 fun l6 => ref30_Put.l0 (AV.boxv 3 c2 []) (AV.sl 3 l6) (AV.own 3 []) (AV.bool false) (AV.int .i64 0)) :=
  (run8 _).trans (by kernel_rfl)
theorem ref30_Put.l0_eq (c1 : List AV) (l2 : List (List AV)) (l3 : List (List AV)) (n4 : Int) : ref30_Put.l0 (AV.boxv 3 c1 []) (AV.sl 3 l2) (AV.own 3 l3) (AV.bool false) (AV.int .i64 n4) = (ifB (decide ((n4 : Int) < (List.length l2 : Int))) ((idx l2 n4 fun c6 => getC c6 0 fun a7 => asS a7 fun s8 => getC c1 0 fun a9 => asS a9 fun s10 => some (!(bytesLt s8 s10 || decide ((s8 : List UInt8) = s10))) : Option Bool).bind fun b5 => ifB b5 (guardK (Nat.ble (List.length l3 + List.length [c1]) lim) <| ref30_Put.j1 (AV.boxv 3 c1 []) (AV.sl 3 l2) (AV.own 3 (l3 ++ [c1])) (AV.bool true) (AV.int .i64 n4)) (ref30_Put.j1 (AV.boxv 3 c1 []) (AV.sl 3 l2) (AV.own 3 l3) (AV.bool false) (AV.int .i64 n4))) (guardK (Nat.ble (List.length l3 + List.length [c1]) lim) <| some (AV.own 3 (l3 ++ [c1])))) :=
  (loopAt_eq S 8 d8 [1, 1, 1, 1, 0, 1, 0] _).trans (by kernel_rfl)
theorem ref30_Put.j1_eq (c1 : List AV) (l2 : List (List AV)) (l3 : List (List AV)) (n4 : Int) : ref30_Put.j1 (AV.boxv 3 c1 []) (AV.sl 3 l2) (AV.own 3 l3) (AV.bool true) (AV.int .i64 n4) = (idx l2 n4 fun c5 => guardK (Nat.ble (List.length l3 + List.length [c5]) lim) <| ref30_Put.l0 (AV.boxv 3 c1 []) (AV.sl 3 l2) (AV.own 3 (l3 ++ [c5])) (AV.bool true) (AV.int .i64 (w64 (n4 + 1)))) :=
  (joinAt_eq S 8 d8 [1, 1, 1, 1, 0, 1, 0, 0, 1, 0, 0] _).trans (by kernel_rfl)
theorem ref30_Put.j1_eq2 (c1 : List AV) (l2 : List (List AV)) (l3 : List (List AV)) (n4 : Int) : ref30_Put.j1 (AV.boxv 3 c1 []) (AV.sl 3 l2) (AV.own 3 l3) (AV.bool false) (AV.int .i64 n4) = (idx l2 n4 fun c5 => guardK (Nat.ble (List.length l3 + List.length [c5]) lim) <| ref30_Put.l0 (AV.boxv 3 c1 []) (AV.sl 3 l2) (AV.own 3 (l3 ++ [c5])) (AV.bool false) (AV.int .i64 (w64 (n4 + 1)))) :=
  (joinAt_eq S 8 d8 [1, 1, 1, 1, 0, 1, 0, 0, 1, 0, 0] _).trans (by kernel_rfl)
theorem ref30_Put.l0_eq2 (c1 : List AV) (l2 : List (List AV)) (l3 : List (List AV)) (n4 : Int) : ref30_Put.l0 (AV.boxv 3 c1 []) (AV.sl 3 l2) (AV.own 3 l3) (AV.bool true) (AV.int .i64 n4) = (ifB (decide ((n4 : Int) < (List.length l2 : Int))) (ref30_Put.j1 (AV.boxv 3 c1 []) (AV.sl 3 l2) (AV.own 3 l3) (AV.bool true) (AV.int .i64 n4)) (some (AV.own 3 l3))) :=
  (loopAt_eq S 8 d8 [1, 1, 1, 1, 0, 1, 0] _).trans (by kernel_rfl)

/-! treillage/treillageref30.Drop: function 10 -/
noncomputable def d10 : FD := ⟨(Tryz.f10.body).getD .skip, Tryz.f10.results.toList, 28⟩
theorem run10 (l : List AV) : ωκ S 10 l = runM τ ann10 (ωκ S) [4] lpκ d10.code (look (argEnv 0 l)) (retV τ d10.rs) :=
  ωκ_run S 10 l d10 rfl (by show (Tryz.prog.funcs[10]?).bind toFD = _; rw [Tryz.func10]; rfl)
noncomputable def ref30_Drop.l0 (a0 a1 a5 a6 : AV) : Option AV := loopAt S 10 d10 [1, 1, 0, 1, 0] (look [(0, a0), (1, a1), (5, a5), (6, a6)])
theorem ref30_Drop.f_eq (l1 : List (List AV)) (s2 : List UInt8) : ref30_Drop (AV.sl 3 l1) (AV.str s2) = (ref30_Drop.l0 (AV.sl 3 l1) (AV.str s2) (AV.own 3 []) (AV.int .i64 0)) :=
  (run10 _).trans (by kernel_rfl)
theorem ref30_Drop.l0_eq (l1 : List (List AV)) (s2 : List UInt8) (l3 : List (List AV)) (n4 : Int) : ref30_Drop.l0 (AV.sl 3 l1) (AV.str s2) (AV.own 3 l3) (AV.int .i64 n4) = (ifB (decide ((n4 : Int) < (List.length l1 : Int))) (idx l1 n4 fun c5 => getC c5 0 fun a6 => asS a6 fun s7 => ifB (!decide ((s7 : List UInt8) = s2)) (idx l1 n4 fun c8 => guardK (Nat.ble (List.length l3 + List.length [c8]) lim) <| ref30_Drop.l0 (AV.sl 3 l1) (AV.str s2) (AV.own 3 (l3 ++ [c8])) (AV.int .i64 (w64 (n4 + 1)))) (ref30_Drop.l0 (AV.sl 3 l1) (AV.str s2) (AV.own 3 l3) (AV.int .i64 (w64 (n4 + 1))))) (some (AV.own 3 l3))) :=
  (loopAt_eq S 10 d10 [1, 1, 0, 1, 0] _).trans (by kernel_rfl)

/-! treillage/state.Put: function 11 -/
noncomputable def d11 : FD := ⟨(Tryz.f11.body).getD .skip, Tryz.f11.results.toList, 24⟩
theorem run11 (l : List AV) : ωκ S 11 l = runM τ ann11 (ωκ S) [4] lpκ d11.code (look (argEnv 0 l)) (retV τ d11.rs) :=
  ωκ_run S 11 l d11 rfl (by show (Tryz.prog.funcs[11]?).bind toFD = _; rw [Tryz.func11]; rfl)
noncomputable def state_Put.j0 (a3 a5 a6 : AV) : Option AV := joinAt S 11 d11 [1, 1, 1] (look [(3, a3), (5, a5), (6, a6)])
theorem state_Put.f_eq (l1 : List (List AV)) (c2 : List AV) : state_Put (AV.sl 3 l1) (AV.agg 3 c2) = (getC c2 0 fun a3 => asS a3 fun s4 => (state_Drop (AV.sl 3 l1) (AV.str s4)).bind fun r5 => asL 3 r5 fun l6 => (slices_IndexFunc__Thing (AV.sl 3 l6) (AV.fn 29 [AV.eptr 3 c2 0])).bind fun r7 => asI .i64 r7 fun n8 => ifB (decide ((n8 : Int) < 0)) (state_Put.j0 (AV.eptr 3 c2 0) (AV.sl 3 l6) (AV.int .i64 (List.length l6 : Int))) (state_Put.j0 (AV.eptr 3 c2 0) (AV.sl 3 l6) (AV.int .i64 n8))) :=
  (run11 _).trans (by kernel_rfl)
theorem state_Put.j0_eq (c1 : List AV) (l2 : List (List AV)) (n3 : Int) : state_Put.j0 (AV.eptr 3 c1 0) (AV.sl 3 l2) (AV.int .i64 n3) = ((state_own (AV.agg 3 c1)).bind fun r4 => asC 3 r4 fun c5 => (slices_Insert__Thing (AV.sl 3 l2) (AV.int .i64 n3) (AV.sl 3 [c5])).bind fun r6 => asL 3 r6 fun l7 => some (AV.sl 3 l7)) :=
  (joinAt_eq S 11 d11 [1, 1, 1] _).trans (by kernel_rfl)

/-! treillage/state.Drop: function 12 -/
noncomputable def d12 : FD := ⟨(Tryz.f12.body).getD .skip, Tryz.f12.results.toList, 25⟩
theorem run12 (l : List AV) : ωκ S 12 l = runM τ ann12 (ωκ S) [4] lpκ d12.code (look (argEnv 0 l)) (retV τ d12.rs) :=
  ωκ_run S 12 l d12 rfl (by show (Tryz.prog.funcs[12]?).bind toFD = _; rw [Tryz.func12]; rfl)
noncomputable def state_Drop.l0 (a1 a5 a8 a9 a10 : AV) : Option AV := loopAt S 12 d12 [1, 1, 0, 1, 0] (look [(1, a1), (5, a5), (8, a8), (9, a9), (10, a10)])
theorem state_Drop.f_eq (l1 : List (List AV)) (s2 : List UInt8) : state_Drop (AV.sl 3 l1) (AV.str s2) = (state_Drop.l0 (AV.str s2) (AV.own 3 []) (AV.sl 3 l1) (AV.int .i64 (List.length l1 : Int)) (AV.int .i64 0)) :=
  (run12 _).trans (by kernel_rfl)
theorem state_Drop.l0_eq (s1 : List UInt8) (l2 : List (List AV)) (l3 : List (List AV)) (n4 : Int) (n5 : Int) : state_Drop.l0 (AV.str s1) (AV.own 3 l2) (AV.sl 3 l3) (AV.int .i64 n4) (AV.int .i64 n5) = (ifB (decide ((n5 : Int) < n4)) (idx l3 n5 fun c6 => getC c6 0 fun a7 => asS a7 fun s8 => ifB (!decide ((s8 : List UInt8) = s1)) ((state_own (AV.agg 3 c6)).bind fun r9 => asC 3 r9 fun c10 => guardK (Nat.ble (List.length l2 + List.length [c10]) lim) <| state_Drop.l0 (AV.str s1) (AV.own 3 (l2 ++ [c10])) (AV.sl 3 l3) (AV.int .i64 n4) (AV.int .i64 (w64 (n5 + 1)))) (state_Drop.l0 (AV.str s1) (AV.own 3 l2) (AV.sl 3 l3) (AV.int .i64 n4) (AV.int .i64 (w64 (n5 + 1))))) (some (AV.own 3 l2))) :=
  (loopAt_eq S 12 d12 [1, 1, 0, 1, 0] _).trans (by kernel_rfl)

/-! treillage/treillageref29.Things: function 13 -/
noncomputable def d13 : FD := ⟨(Tryz.f13.body).getD .skip, Tryz.f13.results.toList, 27⟩
theorem run13 (l : List AV) : ωκ S 13 l = runM τ ann13 (ωκ S) [4] lpκ d13.code (look (argEnv 0 l)) (retV τ d13.rs) :=
  ωκ_run S 13 l d13 rfl (by show (Tryz.prog.funcs[13]?).bind toFD = _; rw [Tryz.func13]; rfl)
noncomputable def ref29_Things.l0 (a0 a1 a5 : AV) : Option AV := loopAt S 13 d13 [1, 1, 0, 1, 0] (look [(0, a0), (1, a1), (5, a5)])
theorem ref29_Things.f_eq (l1 : List (List AV)) (l2 : List (List AV)) : ref29_Things (AV.sl 3 l1) (AV.sl 3 l2) = (ifB (!decide (((List.length l1 : Int) : Int) = (List.length l2 : Int))) (some (AV.bool false)) (ref29_Things.l0 (AV.sl 3 l1) (AV.sl 3 l2) (AV.int .i64 0))) :=
  (run13 _).trans (by kernel_rfl)
theorem ref29_Things.l0_eq (l1 : List (List AV)) (l2 : List (List AV)) (n3 : Int) : ref29_Things.l0 (AV.sl 3 l1) (AV.sl 3 l2) (AV.int .i64 n3) = (ifB (decide ((n3 : Int) < (List.length l1 : Int))) (idx l1 n3 fun c4 => idx l2 n3 fun c5 => (ref29_Same (AV.agg 3 c4) (AV.agg 3 c5)).bind fun r6 => asB r6 fun b7 => ifB (!b7) (some (AV.bool false)) (ref29_Things.l0 (AV.sl 3 l1) (AV.sl 3 l2) (AV.int .i64 (w64 (n3 + 1))))) (some (AV.bool true))) :=
  (loopAt_eq S 13 d13 [1, 1, 0, 1, 0] _).trans (by kernel_rfl)

/-! treillage/state.Find: function 14 -/
noncomputable def d14 : FD := ⟨(Tryz.f14.body).getD .skip, Tryz.f14.results.toList, 8⟩
theorem run14 (l : List AV) : ωκ S 14 l = runM τ (fun _ => none) (ωκ S) [4] lpκ d14.code (look (argEnv 0 l)) (retV τ d14.rs) :=
  ωκ_run S 14 l d14 rfl (by show (Tryz.prog.funcs[14]?).bind toFD = _; rw [Tryz.func14]; rfl)
theorem state_Find.f_eq (l1 : List (List AV)) (s2 : List UInt8) : state_Find (AV.sl 3 l1) (AV.str s2) = ((slices_IndexFunc__Thing (AV.sl 3 l1) (AV.fn 32 [AV.eptr 1 [AV.str s2] 0])).bind fun r3 => asI .i64 r3 fun n4 => some (AV.int .i64 n4)) :=
  (run14 _).trans (by kernel_rfl)

/-! treillage/treillageref29.Same: function 15 -/
noncomputable def d15 : FD := ⟨(Tryz.f15.body).getD .skip, Tryz.f15.results.toList, 24⟩
theorem run15 (l : List AV) : ωκ S 15 l = runM τ (fun _ => none) (ωκ S) [4] lpκ d15.code (look (argEnv 0 l)) (retV τ d15.rs) :=
  ωκ_run S 15 l d15 rfl (by show (Tryz.prog.funcs[15]?).bind toFD = _; rw [Tryz.func15]; rfl)
theorem ref29_Same.f_eq (c1 : List AV) (c2 : List AV) : ref29_Same (AV.agg 3 c1) (AV.agg 3 c2) = (getC c1 0 fun a3 => asS a3 fun s4 => getC c2 0 fun a5 => asS a5 fun s6 => (ifB (decide ((s4 : List UInt8) = s6)) (getC c1 1 fun a8 => getC c2 1 fun a9 => (ref08_Same (AV.agg 1 [(frz a8)]) (AV.agg 1 [(frz a9)])).bind fun r10 => asB r10 fun b11 => some b11) (some false) : Option Bool).bind fun b7 => (ifB b7 (getC c1 2 fun a13 => asL 1 a13 fun l14 => getC c2 2 fun a15 => asL 1 a15 fun l16 => (ref02_Same (AV.sl 1 l14) (AV.sl 1 l16)).bind fun r17 => asB r17 fun b18 => some b18) (some false) : Option Bool).bind fun b12 => some (AV.bool b12)) :=
  (run15 _).trans (by kernel_rfl)

/-! treillage/state.Right: function 17 -/
noncomputable def d17 : FD := ⟨(Tryz.f17.body).getD .skip, Tryz.f17.results.toList, 37⟩
theorem run17 (l : List AV) : ωκ S 17 l = runM τ ann17 (ωκ S) [2] lpκ d17.code (look (argEnv 0 l)) (retV τ d17.rs) :=
  ωκ_run S 17 l d17 rfl (by show (Tryz.prog.funcs[17]?).bind toFD = _; rw [Tryz.func17]; rfl)
noncomputable def state_Right.l0 (a0 a8 a9 a10 : AV) : Option AV := loopAt S 17 d17 [1, 1, 0, 1, 0] (look [(0, a0), (8, a8), (9, a9), (10, a10)])
theorem state_Right.f_eq (l1 : List (List AV)) : state_Right (AV.sl 3 l1) = (ifB (decide ((256 : Int) < (List.length l1 : Int))) (some (AV.bool false)) (state_Right.l0 (AV.sl 3 l1) (AV.sl 3 l1) (AV.int .i64 (List.length l1 : Int)) (AV.int .i64 0))) :=
  (run17 _).trans (by kernel_rfl)
theorem state_Right.l0_eq (l1 : List (List AV)) (l2 : List (List AV)) (n3 : Int) (n4 : Int) : state_Right.l0 (AV.sl 3 l1) (AV.sl 3 l2) (AV.int .i64 n3) (AV.int .i64 n4) = (ifB (decide ((n4 : Int) < n3)) (idx l2 n4 fun c5 => (state_good (AV.agg 3 c5)).bind fun r6 => asB r6 fun b7 => (ifB (!b7) (some true) ((ifB (decide ((0 : Int) < n4)) (getC c5 0 fun a10 => asS a10 fun s11 => idx l1 (w64 (n4 - 1)) fun c12 => getC c12 0 fun a13 => asS a13 fun s14 => some (bytesLt s11 s14 || decide ((s11 : List UInt8) = s14))) (some false) : Option Bool).bind fun b9 => some b9) : Option Bool).bind fun b8 => ifB b8 (some (AV.bool false)) (state_Right.l0 (AV.sl 3 l1) (AV.sl 3 l2) (AV.int .i64 n3) (AV.int .i64 (w64 (n4 + 1))))) ((state_rings (AV.sl 3 l1)).bind fun r15 => asB r15 fun b16 => some (AV.bool (!b16)))) :=
  (loopAt_eq S 17 d17 [1, 1, 0, 1, 0] _).trans (by kernel_rfl)
end Go.Proofs.YtffojfcinkihnaaGreatDoor.Abs
