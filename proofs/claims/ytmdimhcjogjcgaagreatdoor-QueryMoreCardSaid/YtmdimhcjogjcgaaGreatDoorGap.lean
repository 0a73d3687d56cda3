/- The shelf's contracts at this program, in plain words (printed by lay-plain). -/
import Derived.Ground.Names2Prog
import Derived.Shelf.Slices.Clone
import Derived.Shelf.Spec.SlicesInsert
import Derived.Shelf.Spec.SlicesInsertGrow
import Derived.Shelf.Spec.SearchS
import Derived.Shelf.SlIter.Nil
import Derived.Shelf.SortM.Plain
import Derived.Shelf.SortM.SortNone
import Derived.Ground.GgzProg
import Derived.Ground.SlgmProg
import Derived.Ground.Names8Prog
import Derived.Shelf.Spec.SlicesGrow
import Derived.Ground.NamesProg
import Derived.Shelf.Small.Bits
import Derived.Test.YtmdimhcjogjcgaaGreatDoorProg
import Derived.Test.YtmdimhcjogjcgaaGreatDoorGao
import Derived.Test.YtmdimhcjogjcgaaGreatDoorGah
import Derived.RegionTactic
import Derived.Deep.RegionHeld3
import Derived.Deep.MidRow
import Derived.Maps.OwnOps
import Derived.Lib.Hide
set_option linter.all false
set_option maxRecDepth 100000
set_option maxHeartbeats 4000000
noncomputable section
namespace Go.Proofs
open Go.Shelf
def Tryz.apl : Go.Shelf.Ren := ⟨fun | 16 => 160 | n => n, fun | 24 => 37 | 9 => 9 | 4 => 4 | n => n, fun | n => n⟩
theorem Tryz.sn : Go.Proofs.Lays2.n16 Tryz.prog Tryz.apl := {
 mixed := by kernel_rfl
 f16 := Tryz.func160.trans (congrArg some (by kernel_rfl))
 t4 := Tryz.underlying4
 a4 := Tryz.isAgg4
 z4 := Tryz.sizeOf4
 v4 := Tryz.zeroValue4
 t9 := Tryz.underlying9
 a9 := Tryz.isAgg9
 z9 := Tryz.sizeOf9
 v9 := Tryz.zeroValue9
 t24 := Tryz.underlying37
 a24 := Tryz.isAgg37
 z24 := Tryz.sizeOf37
 v24 := Tryz.zeroValue37
 i9 := by kernel_rfl }
def Tryz.im : Go.Shelf.Ren := ⟨fun | 22 => 159 | 29 => 202 | 30 => 203 | 36 => 250 | 17 => 275 | n => n, fun | 24 => 37 | 9 => 9 | 3 => 3 | 4 => 4 | 0 => 0 | n => n, fun | n => n⟩
theorem Tryz.ab3 : Go.Proofs.Lays2.n22 Tryz.prog Tryz.im := {
 mixed := by kernel_rfl
 f17 := Tryz.func275.trans (congrArg some (by kernel_rfl))
 f22 := Tryz.func159.trans (congrArg some (by kernel_rfl))
 f29 := Tryz.func202.trans (congrArg some (by kernel_rfl))
 f30 := Tryz.func203.trans (congrArg some (by kernel_rfl))
 f36 := Tryz.func250.trans (congrArg some (by kernel_rfl))
 t0 := Tryz.underlying0
 a0 := Tryz.isAgg0
 z0 := Tryz.sizeOf0
 v0 := Tryz.zeroValue0
 t3 := Tryz.underlying3
 a3 := Tryz.isAgg3
 z3 := Tryz.sizeOf3
 v3 := Tryz.zeroValue3
 t4 := Tryz.underlying4
 a4 := Tryz.isAgg4
 z4 := Tryz.sizeOf4
 v4 := Tryz.zeroValue4
 t9 := Tryz.underlying9
 a9 := Tryz.isAgg9
 z9 := Tryz.sizeOf9
 v9 := Tryz.zeroValue9
 t24 := Tryz.underlying37
 a24 := Tryz.isAgg37
 z24 := Tryz.sizeOf37
 v24 := Tryz.zeroValue37
 i9 := by kernel_rfl }
def Tryz.apm : Go.Shelf.Ren := ⟨fun | 26 => 158 | 33 => 200 | 34 => 201 | 38 => 249 | n => n, fun | 24 => 37 | 9 => 9 | 3 => 3 | 4 => 4 | 40 => 142 | 0 => 0 | n => n, fun | n => n⟩
theorem Tryz.afm : Go.Proofs.Lays2.n26 Tryz.prog Tryz.apm := {
 mixed := by kernel_rfl
 f26 := Tryz.func158.trans (congrArg some (by kernel_rfl))
 f33 := Tryz.func200.trans (congrArg some (by kernel_rfl))
 f34 := Tryz.func201.trans (congrArg some (by kernel_rfl))
 f38 := Tryz.func249.trans (congrArg some (by kernel_rfl))
 t0 := Tryz.underlying0
 a0 := Tryz.isAgg0
 z0 := Tryz.sizeOf0
 v0 := Tryz.zeroValue0
 t3 := Tryz.underlying3
 a3 := Tryz.isAgg3
 z3 := Tryz.sizeOf3
 v3 := Tryz.zeroValue3
 t4 := Tryz.underlying4
 a4 := Tryz.isAgg4
 z4 := Tryz.sizeOf4
 v4 := Tryz.zeroValue4
 t9 := Tryz.underlying9
 a9 := Tryz.isAgg9
 z9 := Tryz.sizeOf9
 v9 := Tryz.zeroValue9
 t24 := Tryz.underlying37
 a24 := Tryz.isAgg37
 z24 := Tryz.sizeOf37
 v24 := Tryz.zeroValue37
 t40 := Tryz.underlying142
 a40 := Tryz.isAgg142
 z40 := Tryz.sizeOf142
 v40 := Tryz.zeroValue142 }
def Tryz.ado : Go.Shelf.Ren := ⟨fun | 7 => 166 | 10 => 207 | n => n, fun | 23 => 219 | 26 => 9 | 3 => 3 | 28 => 225 | 0 => 0 | 27 => 224 | 33 => 30 | 4 => 4 | n => n, fun | n => n⟩
theorem Tryz.aob : Go.Proofs.SlLaysZ.n7 Tryz.prog Tryz.ado := {
 mixed := by kernel_rfl
 f7 := ⟨Tryz.f166.name, by decide, Tryz.func166.trans (congrArg some (by kernel_rfl))⟩
 f10 := ⟨Tryz.f207.name, by decide, Tryz.func207.trans (congrArg some (by kernel_rfl))⟩
 t0 := Tryz.underlying0
 a0 := Tryz.isAgg0
 z0 := Tryz.sizeOf0
 v0 := Tryz.zeroValue0
 t4 := Tryz.underlying4
 a4 := Tryz.isAgg4
 z4 := Tryz.sizeOf4
 v4 := Tryz.zeroValue4
 t23 := Tryz.underlying219
 a23 := Tryz.isAgg219
 z23 := Tryz.sizeOf219
 v23 := Tryz.zeroValue219
 t26 := Tryz.underlying9
 a26 := Tryz.isAgg9
 z26 := Tryz.sizeOf9
 v26 := Tryz.zeroValue9
 t27 := Tryz.underlying224
 a27 := Tryz.isAgg224
 z27 := Tryz.sizeOf224
 v27 := Tryz.zeroValue224
 t28 := Tryz.underlying225
 a28 := Tryz.isAgg225
 z28 := Tryz.sizeOf225
 v28 := Tryz.zeroValue225
 t33 := Tryz.underlying30
 a33 := Tryz.isAgg30
 z33 := Tryz.sizeOf30
 v33 := Tryz.zeroValue30 }
def Tryz.abd : Go.Shelf.Ren := ⟨fun | 6 => 165 | 8 => 205 | 9 => 206 | 11 => 252 | 13 => 254 | 12 => 253 | 23 => 284 | 24 => 285 | 14 => 276 | 15 => 277 | 16 => 278 | 17 => 279 | 18 => 280 | 19 => 281 | 20 => 200 | 21 => 282 | 22 => 283 | 25 => 299 | 26 => 300 | 27 => 301 | 28 => 302 | 29 => 303 | 30 => 249 | 31 => 307 | n => n, fun | 26 => 9 | 28 => 225 | 24 => 37 | 0 => 0 | 3 => 3 | 37 => 142 | 48 => 293 | 50 => 35 | 4 => 4 | 40 => 287 | 39 => 286 | 45 => 214 | 5 => 5 | 9 => 9 | 51 => 308 | 55 => 311 | 57 => 315 | 58 => 316 | 33 => 30 | n => n, fun | n => n⟩
theorem Tryz.aij : Go.Proofs.SlLaysZ.n6 Tryz.prog Tryz.abd := {
 mixed := by kernel_rfl
 f6 := ⟨Tryz.f165.name, by decide, Tryz.func165.trans (congrArg some (by kernel_rfl))⟩
 f8 := ⟨Tryz.f205.name, by decide, Tryz.func205.trans (congrArg some (by kernel_rfl))⟩
 f11 := ⟨Tryz.f252.name, by decide, Tryz.func252.trans (congrArg some (by kernel_rfl))⟩
 t0 := Tryz.underlying0
 a0 := Tryz.isAgg0
 z0 := Tryz.sizeOf0
 v0 := Tryz.zeroValue0
 t24 := Tryz.underlying37
 a24 := Tryz.isAgg37
 z24 := Tryz.sizeOf37
 v24 := Tryz.zeroValue37
 t26 := Tryz.underlying9
 a26 := Tryz.isAgg9
 z26 := Tryz.sizeOf9
 v26 := Tryz.zeroValue9
 t28 := Tryz.underlying225
 a28 := Tryz.isAgg225
 z28 := Tryz.sizeOf225
 v28 := Tryz.zeroValue225
 i26 := by kernel_rfl }
def Tryz.am9 : Go.Shelf.Ren := ⟨fun | 6 => 206 | 8 => 254 | 9 => 253 | 19 => 284 | 20 => 285 | 21 => 276 | 22 => 277 | 23 => 278 | 24 => 279 | 25 => 280 | 26 => 281 | 27 => 200 | 28 => 282 | 29 => 283 | 36 => 299 | 31 => 300 | 32 => 301 | 37 => 302 | 38 => 303 | 39 => 249 | 41 => 307 | n => n, fun | 27 => 37 | 29 => 9 | 3 => 3 | 32 => 142 | 26 => 37 | 0 => 0 | 44 => 293 | 46 => 35 | 4 => 4 | 36 => 287 | 35 => 286 | 41 => 214 | 5 => 5 | 9 => 9 | 53 => 308 | 57 => 311 | 63 => 315 | 64 => 316 | n => n, fun | n => n⟩
theorem Tryz.aoc : Go.Proofs.SlLaysM.n6 Tryz.prog Tryz.am9 := {
 mixed := by kernel_rfl
 f6 := ⟨Tryz.f206.name, by decide, Tryz.func206.trans (congrArg some (by kernel_rfl))⟩
 f8 := Tryz.func254.trans (congrArg some (by kernel_rfl))
 f9 := ⟨Tryz.f253.name, by decide, Tryz.func253.trans (congrArg some (by kernel_rfl))⟩
 f19 := Tryz.func284.trans (congrArg some (by kernel_rfl))
 f20 := Tryz.func285.trans (congrArg some (by kernel_rfl))
 f21 := ⟨Tryz.f276.name, by decide, Tryz.func276.trans (congrArg some (by kernel_rfl))⟩
 f22 := ⟨Tryz.f277.name, by decide, Tryz.func277.trans (congrArg some (by kernel_rfl))⟩
 f23 := ⟨Tryz.f278.name, by decide, Tryz.func278.trans (congrArg some (by kernel_rfl))⟩
 f24 := ⟨Tryz.f279.name, by decide, Tryz.func279.trans (congrArg some (by kernel_rfl))⟩
 f25 := ⟨Tryz.f280.name, by decide, Tryz.func280.trans (congrArg some (by kernel_rfl))⟩
 f26 := ⟨Tryz.f281.name, by decide, Tryz.func281.trans (congrArg some (by kernel_rfl))⟩
 f27 := ⟨Tryz.f200.name, by decide, Tryz.func200.trans (congrArg some (by kernel_rfl))⟩
 f28 := ⟨Tryz.f282.name, by decide, Tryz.func282.trans (congrArg some (by kernel_rfl))⟩
 f29 := ⟨Tryz.f283.name, by decide, Tryz.func283.trans (congrArg some (by kernel_rfl))⟩
 f31 := Tryz.func300.trans (congrArg some (by kernel_rfl))
 f32 := Tryz.func301.trans (congrArg some (by kernel_rfl))
 f36 := ⟨Tryz.f299.name, by decide, Tryz.func299.trans (congrArg some (by kernel_rfl))⟩
 f37 := ⟨Tryz.f302.name, by decide, Tryz.func302.trans (congrArg some (by kernel_rfl))⟩
 f38 := ⟨Tryz.f303.name, by decide, Tryz.func303.trans (congrArg some (by kernel_rfl))⟩
 f39 := ⟨Tryz.f249.name, by decide, Tryz.func249.trans (congrArg some (by kernel_rfl))⟩
 f41 := ⟨Tryz.f307.name, by decide, Tryz.func307.trans (congrArg some (by kernel_rfl))⟩
 t0 := Tryz.underlying0
 a0 := Tryz.isAgg0
 z0 := Tryz.sizeOf0
 v0 := Tryz.zeroValue0
 t3 := Tryz.underlying3
 a3 := Tryz.isAgg3
 z3 := Tryz.sizeOf3
 v3 := Tryz.zeroValue3
 t4 := Tryz.underlying4
 a4 := Tryz.isAgg4
 z4 := Tryz.sizeOf4
 v4 := Tryz.zeroValue4
 t5 := Tryz.underlying5
 a5 := Tryz.isAgg5
 z5 := Tryz.sizeOf5
 v5 := Tryz.zeroValue5
 t9 := Tryz.underlying9
 a9 := Tryz.isAgg9
 z9 := Tryz.sizeOf9
 v9 := Tryz.zeroValue9
 t26 := Tryz.underlying37
 a26 := Tryz.isAgg37
 z26 := Tryz.sizeOf37
 v26 := Tryz.zeroValue37
 t27 := Tryz.underlying37
 a27 := Tryz.isAgg37
 z27 := Tryz.sizeOf37
 v27 := Tryz.zeroValue37
 t29 := Tryz.underlying9
 a29 := Tryz.isAgg9
 z29 := Tryz.sizeOf9
 v29 := Tryz.zeroValue9
 t32 := Tryz.underlying142
 a32 := Tryz.isAgg142
 z32 := Tryz.sizeOf142
 v32 := Tryz.zeroValue142
 t35 := Tryz.underlying286
 a35 := Tryz.isAgg286
 z35 := Tryz.sizeOf286
 v35 := Tryz.zeroValue286
 t36 := Tryz.underlying287
 a36 := Tryz.isAgg287
 z36 := Tryz.sizeOf287
 v36 := Tryz.zeroValue287
 t41 := Tryz.underlying214
 a41 := Tryz.isAgg214
 z41 := Tryz.sizeOf214
 v41 := Tryz.zeroValue214
 t44 := Tryz.underlying293
 a44 := Tryz.isAgg293
 z44 := Tryz.sizeOf293
 v44 := Tryz.zeroValue293
 t46 := Tryz.underlying35
 a46 := Tryz.isAgg35
 z46 := Tryz.sizeOf35
 v46 := Tryz.zeroValue35
 t53 := Tryz.underlying308
 a53 := Tryz.isAgg308
 z53 := Tryz.sizeOf308
 v53 := Tryz.zeroValue308
 t57 := Tryz.underlying311
 a57 := Tryz.isAgg311
 z57 := Tryz.sizeOf311
 v57 := Tryz.zeroValue311
 t63 := Tryz.underlying315
 a63 := Tryz.isAgg315
 z63 := Tryz.sizeOf315
 v63 := Tryz.zeroValue315
 t64 := Tryz.underlying316
 a64 := Tryz.isAgg316
 z64 := Tryz.sizeOf316
 v64 := Tryz.zeroValue316 }
def Tryz.adp : Go.Shelf.Ren := ⟨fun | 7 => 204 | 10 => 251 | n => n, fun | 23 => 211 | 26 => 9 | 3 => 37 | 28 => 225 | 0 => 0 | 27 => 224 | 33 => 30 | 4 => 4 | n => n, fun | n => n⟩
theorem Tryz.aod : Go.Proofs.SlLaysZ.n7 Tryz.prog Tryz.adp := {
 mixed := by kernel_rfl
 f7 := ⟨Tryz.f204.name, by decide, Tryz.func204.trans (congrArg some (by kernel_rfl))⟩
 f10 := ⟨Tryz.f251.name, by decide, Tryz.func251.trans (congrArg some (by kernel_rfl))⟩
 t0 := Tryz.underlying0
 a0 := Tryz.isAgg0
 z0 := Tryz.sizeOf0
 v0 := Tryz.zeroValue0
 t4 := Tryz.underlying4
 a4 := Tryz.isAgg4
 z4 := Tryz.sizeOf4
 v4 := Tryz.zeroValue4
 t23 := Tryz.underlying211
 a23 := Tryz.isAgg211
 z23 := Tryz.sizeOf211
 v23 := Tryz.zeroValue211
 t26 := Tryz.underlying9
 a26 := Tryz.isAgg9
 z26 := Tryz.sizeOf9
 v26 := Tryz.zeroValue9
 t27 := Tryz.underlying224
 a27 := Tryz.isAgg224
 z27 := Tryz.sizeOf224
 v27 := Tryz.zeroValue224
 t28 := Tryz.underlying225
 a28 := Tryz.isAgg225
 z28 := Tryz.sizeOf225
 v28 := Tryz.zeroValue225
 t33 := Tryz.underlying30
 a33 := Tryz.isAgg30
 z33 := Tryz.sizeOf30
 v33 := Tryz.zeroValue30 }
def Tryz.ana : Go.Shelf.Ren := ⟨fun | 125 => 254 | 128 => 284 | 129 => 285 | n => n, fun | 46 => 142 | 3 => 3 | 51 => 293 | 53 => 35 | 4 => 4 | 5 => 5 | 9 => 9 | n => n, fun | n => n⟩
theorem Tryz.ayr : Go.Proofs.Lays.n125 Tryz.prog Tryz.ana := {
 mixed := by kernel_rfl
 f125 := Tryz.func254.trans (congrArg some (by kernel_rfl))
 f128 := Tryz.func284.trans (congrArg some (by kernel_rfl))
 f129 := Tryz.func285.trans (congrArg some (by kernel_rfl))
 t3 := Tryz.underlying3
 a3 := Tryz.isAgg3
 z3 := Tryz.sizeOf3
 v3 := Tryz.zeroValue3
 t4 := Tryz.underlying4
 a4 := Tryz.isAgg4
 z4 := Tryz.sizeOf4
 v4 := Tryz.zeroValue4
 t5 := Tryz.underlying5
 a5 := Tryz.isAgg5
 z5 := Tryz.sizeOf5
 v5 := Tryz.zeroValue5
 t9 := Tryz.underlying9
 a9 := Tryz.isAgg9
 z9 := Tryz.sizeOf9
 v9 := Tryz.zeroValue9
 t46 := Tryz.underlying142
 a46 := Tryz.isAgg142
 z46 := Tryz.sizeOf142
 v46 := Tryz.zeroValue142
 t51 := Tryz.underlying293
 a51 := Tryz.isAgg293
 z51 := Tryz.sizeOf293
 v51 := Tryz.zeroValue293
 t53 := Tryz.underlying35
 a53 := Tryz.isAgg35
 z53 := Tryz.sizeOf35
 v53 := Tryz.zeroValue35 }
open Go.RowKit Go.Maps Go.Sort Go.Shelf
theorem Tryz.ald (m : Nat) : AnyZ.SortsIn Tryz.prog Tryz.abd Fence.wide m :=
 ⟨fun blk off cap ss W hH hblk hsz => callsIn_wide.2 (AnyM.slices_Sort_string Tryz.aoc blk off cap ss W hH hblk hsz),
  fun p cap W => callsIn_wide.2 (AnyM.slices_Sort_string_none Tryz.aoc p cap W)⟩
theorem Tryz.ai9 (mb : Option Nat) (W : World) : CallsIn Fence.wide 5 Tryz.prog 166 #[.map mb] W fun e w' => e = .returned (.func (.func 207) #[] #[.pointer (some ⟨W.heap.size, 0, none⟩)]) ∧ w' = W.alloc (.cells #[.map mb] 219) :=
 AnyZ.keys_in Tryz.aob Fence.wide 5 trivial rfl mb W
theorem Tryz.vg {H : Type} (b nn : Nat) (D0 : DataW H) (R : Value → Option (DataW H × List MemPlace)) (w : World) (hown : w.ownsMap Tryz.prog 9 R b nn D0) (hmax : Maps.size D0 ≤ maxLen) (hbytes : Maps.size D0 * 16 ≤ 140737488355328) :
  CallsIn Fence.wide 5 Tryz.prog 165 #[.func (.func 207) #[] #[.pointer (some ⟨w.heap.size, 0, none⟩)]] (w.alloc (.cells #[.map (some b)] 219)) fun e w' => ∃ (v : Value) (ss : List (List UInt8)), e = .returned v ∧ ss.Perm (strKeys D0) ∧
   w'.ownsRow (w.alloc (.cells #[.map (some b)] 219)).heap.size 9 1 v ss.length ((ss.mergeSort (fun x y => decide (x ≤ y))).map encStr) ∧ (v = .slice none 0 0 ↔ ss = []) ∧ Below (w.alloc (.cells #[.map (some b)] 219)).heap.size (w.alloc (.cells #[.map (some b)] 219)) w' := by
 have hbl := hown.lt
 have hseq : SeqGives Fence.wide 2 Tryz.prog 207 #[.pointer (some ⟨w.heap.size, 0, none⟩)] encStr (fun ss => ss.Perm (strKeys D0)) (Maps.size D0) (w.alloc (.cells #[.map (some b)] 219)) :=
  AnyZ.keys_gives (ρ := Tryz.ado) { Tryz.aob with } Fence.wide _ trivial rfl (by omega) w.heap.size b nn D0 _ (by simp) (by simp) (by
   obtain ⟨es, clock, hb, Ft, hs, hD⟩ := hown
   exact ⟨es, clock, (Below.heap_alloc _ _ b hbl).trans hb, Ft, hs, hD⟩)
 exact AnyZ.sorted_in Tryz.aij Fence.wide 5 trivial trivial trivial trivial rfl (by omega) (Tryz.ald _) (enters_of Tryz.func206 (by kernel_rfl) rfl) 207 #[.pointer (some ⟨w.heap.size, 0, none⟩)] trivial (enters_of Tryz.func207 (by kernel_rfl) rfl) _ _ hmax hbytes _ hseq
theorem Tryz.aja (mb : Option Nat) (W : World) : CallsIn Fence.wide 5 Tryz.prog 204 #[.map mb] W fun e w' => e = .returned (.func (.func 251) #[] #[.pointer (some ⟨W.heap.size, 0, none⟩)]) ∧ w' = W.alloc (.cells #[.map mb] 211) :=
 AnyZ.keys_in Tryz.aod Fence.wide 5 trivial rfl mb W
theorem Tryz.vh {H : Type} (b nn : Nat) (D0 : DataW H) (R : Value → Option (DataW H × List MemPlace)) (w : World) (hown : w.ownsMap Tryz.prog 9 R b nn D0) (hmax : Maps.size D0 ≤ maxLen) (hbytes : Maps.size D0 * 16 ≤ 140737488355328) :
  CallsIn Fence.wide 5 Tryz.prog 165 #[.func (.func 251) #[] #[.pointer (some ⟨w.heap.size, 0, none⟩)]] (w.alloc (.cells #[.map (some b)] 211)) fun e w' => ∃ (v : Value) (ss : List (List UInt8)), e = .returned v ∧ ss.Perm (strKeys D0) ∧
   w'.ownsRow (w.alloc (.cells #[.map (some b)] 211)).heap.size 9 1 v ss.length ((ss.mergeSort (fun x y => decide (x ≤ y))).map encStr) ∧ (v = .slice none 0 0 ↔ ss = []) ∧ Below (w.alloc (.cells #[.map (some b)] 211)).heap.size (w.alloc (.cells #[.map (some b)] 211)) w' := by
 have hbl := hown.lt
 have hseq : SeqGives Fence.wide 2 Tryz.prog 251 #[.pointer (some ⟨w.heap.size, 0, none⟩)] encStr (fun ss => ss.Perm (strKeys D0)) (Maps.size D0) (w.alloc (.cells #[.map (some b)] 211)) :=
  AnyZ.keys_gives (ρ := Tryz.adp) { Tryz.aod with } Fence.wide _ trivial rfl (by omega) w.heap.size b nn D0 _ (by simp) (by simp) (by
   obtain ⟨es, clock, hb, Ft, hs, hD⟩ := hown
   exact ⟨es, clock, (Below.heap_alloc _ _ b hbl).trans hb, Ft, hs, hD⟩)
 exact AnyZ.sorted_in Tryz.aij Fence.wide 5 trivial trivial trivial trivial rfl (by omega) (Tryz.ald _) (enters_of Tryz.func206 (by kernel_rfl) rfl) 251 #[.pointer (some ⟨w.heap.size, 0, none⟩)] trivial (enters_of Tryz.func251 (by kernel_rfl) rfl) _ _ hmax hbytes _ hseq
end Go.Proofs
namespace Go.Proofs.YtmdimhcjogjcgaaGreatDoor.Gr
open Go.RowKit Go.Lib Go.Proofs.YtmdimhcjogjcgaaGreatDoor.Lat Go.Proofs.YtmdimhcjogjcgaaGreatDoor.Mp Go.Maps
structure IsG (w : World) (B bg bm n : Nat) (f : Gr) : Prop where
 hB : B ≤ bg
 hBm : B ≤ bm
 blk : w.heap[bg]? = some (.cells #[.map (some bm)] 213 (0, 0))
 map : ∃ F, fh Tryz.prog 9 w bm n F ∧ ∀ k, (F k = none ↔ f k = none) ∧ ∀ v l, F k = some v → f k = some l → w.ownsRow B 9 1 v l.length (l.map encStr)
theorem tp {w w' : World} {B : Nat} {v : Value} {n : Nat} {xs : List Value} (h : w.ownsRow B 9 1 v n xs) (hb : ∀ b cs t fr, w.heap[b]? = some (.cells cs t fr) → b ≥ B → t = 9 → w'.heap[b]? = w.heap[b]?) : w'.ownsRow B 9 1 v n xs := by
 obtain ⟨h1, h2 | ⟨g, cap, cur, h2, h3, h4, h5, h6, h7, h8⟩⟩ := h
 ·exact ⟨h1, .inl h2⟩
 ·exact ⟨h1, .inr ⟨g, cap, cur, h2, h3, (hb _ _ _ _ h4 h3 rfl).trans h4, h5, h6, h7, h8⟩⟩
theorem my {w : World} {B B' : Nat} {v : Value} {n : Nat} {xs : List Value} (h : w.ownsRow B 9 1 v n xs) (hb : B' ≤ B) : w.ownsRow B' 9 1 v n xs := by
 obtain ⟨h1, h2 | ⟨g, cap, cur, h2, h3, h4⟩⟩ := h
 ·exact ⟨h1, .inl h2⟩
 ·exact ⟨h1, .inr ⟨g, cap, cur, h2, Nat.le_trans hb h3, h4⟩⟩
theorem dz {w : World} {b : Nat} {o : Obj} (h : w.heap[b]? = some o) : b < w.heap.size := (Array.getElem?_eq_some_iff.1 h).1
theorem IsG.kept {w w' : World} {B bg bm n : Nat} {f : Gr} (h : IsG w B bg bm n f) (hk : ∀ b, b < w.heap.size → B ≤ b → w'.heap[b]? = w.heap[b]?) : IsG w' B bg bm n f := by
 obtain ⟨F, h1, h2⟩ := h.map
 refine ⟨h.hB, h.hBm, (hk _ (dz h.blk) h.hB).trans h.blk, F, h1.uj (hk _ h1.lt h.hBm), fun k => ⟨(h2 k).1, fun v l hv hl => tp ((h2 k).2 v l hv hl) fun b cs t fr hb hB _ => hk b (dz hb) hB⟩⟩
theorem IsG.below {w w' : World} {B bg bm n : Nat} {f : Gr} (h : IsG w B bg bm n f) (hk : Below w.heap.size w w') : IsG w' B bg bm n f := h.kept fun b hb _ => hk.block b hb
theorem IsG.other {w w' : World} {B bg bm n m : Nat} {f : Gr} (h : IsG w B bg bm n f) (hk : w.grownBy w' (some m)) {es : Array MapEntry} {c : Nat} (hm : w.heap[m]? = some (.map es c)) (hne : m ≠ bm) : IsG w' B bg bm n f := by
 obtain ⟨F, h1, h2⟩ := h.map
 have ne : ∀ b cs t fr, w.heap[b]? = some (.cells cs t fr) → some b ≠ some m := fun b cs t fr hb e => by cases e; rw [hb] at hm; cases hm
 refine ⟨h.hB, h.hBm, (hk.block _ (dz h.blk) (ne _ _ _ _ h.blk)).trans h.blk, F, h1.uj (hk.block _ h1.lt fun e => by cases e; exact hne rfl), fun k => ⟨(h2 k).1, fun v l hv hl => tp ((h2 k).2 v l hv hl) fun b cs t fr hb hB _ => hk.block b (dz hb) (ne _ _ _ _ hb)⟩⟩
theorem IsG.mono {w : World} {B bg bm n m : Nat} {f : Gr} (h : IsG w B bg bm n f) (hm : n ≤ m) : IsG w B bg bm m f := by
 obtain ⟨F, h1, h2⟩ := h.map
 exact ⟨h.hB, h.hBm, h.blk, F, h1.mono hm, h2⟩
theorem IsG.cell {w : World} {B bg bm n : Nat} {f : Gr} (h : IsG w B bg bm n f) : w.cell? ⟨bg, 0, none⟩ = some (.map (some bm)) := by rw [Abs.cell_of h.blk]; rfl
theorem ays {w : World} {B bg bm n : Nat} {f : Gr} (h : IsG w B bg bm n f) (k : ByteArray) (hk : k.size ≤ maxLen) :
  Calls Tryz.prog 157 #[.pointer (some ⟨bg, 0, none⟩), .string k] w fun e w' => e = .returned (.bool (f k.data.toList).isSome) ∧ w' = w := by
 obtain ⟨F, h1, h2⟩ := h.map
 have hl := h1.look Tryz.underlying9 Tryz.underlying211 (Tryz.zeroValue37 w) k hk
 have hc := h.cell
 have hs : (F k.data.toList).isSome = (f k.data.toList).isSome := by
  have := (h2 k.data.toList).1
  cases hF : F k.data.toList <;> cases hf : f k.data.toList <;> simp [hF, hf] at this ⊢
 rw [hs] at hl
 generalize (f k.data.toList).isSome = r at *
 generalize (F k.data.toList).getD _ = u at *
 clear h h1 h2 hs
 go_enter Tryz.func157, Tryz.ntmps157
 go_wp2_with fail
 go_ret
 exact ⟨rfl, rfl⟩
theorem mz (w : World) (r : Option Nat) : w.grownBy w r := ⟨rfl, rfl, rfl, Nat.le_refl _, fun _ _ _ => rfl⟩
theorem dv {a b c : World} {r : Option Nat} (h : a.grownBy b r) (k : b.grownBy c r) : a.grownBy c r :=
 ⟨k.os.trans h.os, k.tape.trans h.tape, k.output.trans h.output, Nat.le_trans h.size k.size, fun i hi hr => (k.block i (Nat.lt_of_lt_of_le hi h.size) hr).trans (h.block i hi hr)⟩
theorem gn {w w' : World} (r : Option Nat) (h : Below w.heap.size w w') : w.grownBy w' r := ⟨h.os, h.tape, h.output, h.size, fun i hi _ => h.block i hi⟩
theorem IsG.put {w w1 : World} {B bg bm n m : Nat} {f : Gr} {F : Ks → Option Value} {k : Bs} {v : Value} {l : List Bs} (h : IsG w B bg bm n f) (hF : fh Tryz.prog 9 w1 bm m (upd F k (some v))) (hg : w.grownBy w1 (some bm))
  (h2 : ∀ k, (F k = none ↔ f k = none) ∧ ∀ v l, F k = some v → f k = some l → w.ownsRow B 9 1 v l.length (l.map encStr)) (hv : w1.ownsRow B 9 1 v l.length (l.map encStr)) : IsG w1 B bg bm m (upd f k (some l)) := by
 obtain ⟨es, c, hm⟩ : ∃ es c, w.heap[bm]? = some (.map es c) := by obtain ⟨F, h1, _⟩ := h.map; exact h1.blk
 have ne : ∀ b cs t fr, w.heap[b]? = some (.cells cs t fr) → some b ≠ some bm := fun b cs t fr hb e => by cases e; rw [hb] at hm; cases hm
 refine ⟨h.hB, h.hBm, (hg.block _ (dz h.blk) (ne _ _ _ _ h.blk)).trans h.blk, _, hF, fun x => ?_⟩
 by_cases hx : x = k
 ·subst hx
  rw [jf, jf]
  refine ⟨by simp, fun v' l' e e' => ?_⟩
  cases e; cases e'
  exact hv
 ·rw [pc _ _ hx, pc _ _ hx]
  exact ⟨(h2 x).1, fun v' l' hv' hl' => tp ((h2 x).2 v' l' hv' hl') fun b cs t fr hb hB _ => hg.block b (dz hb) (ne _ _ _ _ hb)⟩
theorem aoe {w : World} {B bg bm n : Nat} {f : Gr} (h : IsG w B bg bm n f) (k : ByteArray) (hk : k.size ≤ maxLen) (hn : n < maxLen) :
  Calls Tryz.prog 116 #[.pointer (some ⟨bg, 0, none⟩), .string k] w fun e w' => e = .returned (.tuple #[]) ∧ IsG w' B bg bm (n + 1) (dt f k.data.toList) ∧ w.grownBy w' (some bm) := by
 obtain ⟨F, h1, h2⟩ := h.map
 obtain ⟨w1, hrun, hF, hturn⟩ := h1.store Tryz.underlying9 Tryz.underlying211 hn k hk (.slice none 0 0)
 have hc := h.cell
 have C := Lib.hid (ays h k hk)
 have hgr := Lib.hid hturn.grown
 have hI := Lib.hid h
 have hFF := Lib.hid hF
 have h22 := Lib.hid h2
 clear h h1 h2 hF hturn
 cases hf : f k.data.toList with
 | some l =>
  rw [hf] at C
  clear hrun hgr hFF
  go_enter Tryz.func116, Tryz.ntmps116
  go_wp2_with fail
  refine C.out.mono ?_
  rintro e w' ⟨rfl, rfl⟩
  go_wp2_with fail
  go_end0
  refine ⟨rfl, ?_, mz _ _⟩
  rw [avn hf]
  exact hI.out.mono (Nat.le_succ _)
 | none =>
  rw [hf] at C
  go_enter Tryz.func116, Tryz.ntmps116
  go_wp2_with fail
  refine C.out.mono ?_
  rintro e w' ⟨rfl, rfl⟩
  go_wp2_with fail
  go_end0
  refine ⟨rfl, ?_, hgr.out⟩
  have := hI.out.put (l := []) hFF.out hgr.out h22.out ⟨rfl, .inl ⟨rfl, rfl⟩⟩
  have e : dt f k.data.toList = upd f k.data.toList (some []) := by unfold dt; rw [hf]; rfl
  rw [e]
  exact this
theorem size_mk (x : Bs) : (⟨x.toArray⟩ : ByteArray).size = x.length := by show x.toArray.size = _; simp
structure Ax (p : Prop) : Prop where
 out : p
theorem j9 {w : World} {B : Nat} {v : Value} {l : List Bs} (h : w.ownsRow B 9 1 v l.length (l.map encStr)) :
  ∃ A cap, v = .slice A l.length cap ∧ ∀ i x, l[i]? = some x → ∃ g, A = some ⟨g, 0, none⟩ ∧ g < w.heap.size ∧ B ≤ g ∧ w.cell? ⟨g, i, none⟩ = some (encStr x) := by
 obtain ⟨h1, ⟨rfl, h2⟩ | ⟨g, cap, cur, rfl, h3, h4, h5, h6, h7, h8⟩⟩ := h
 ·obtain rfl := List.eq_nil_of_length_eq_zero h2
  exact ⟨none, 0, rfl, fun i x hx => by simp at hx⟩
 ·refine ⟨_, cap, rfl, fun i x hx => ⟨g, rfl, dz h4, h3, ?_⟩⟩
  rw [Abs.cell_of h4]
  have e : (l.map encStr)[i]? = some (encStr x) := by rw [List.getElem?_map, hx]; rfl
  rw [← h8, List.getElem?_take] at e
  split at e
  ·simpa using e
  ·cases e
theorem ko {w w' : World} {B : Nat} {v : Value} {n : Nat} {xs : List Value} (h : w.ownsRow B 9 1 v n xs) (hk : Below w.heap.size w w') : w'.ownsRow B 9 1 v n xs :=
 tp h fun b cs t fr hb _ _ => hk.block b (dz hb)
def qs (l : List Bs) : Gr := l.foldl dt fun _ => none
theorem aik {l : List Bs} {i : Nat} {x : Bs} (h : l[i]? = some x) : qs (l.take (i + 1)) = dt (qs (l.take i)) x := by
 have hi := (List.getElem?_eq_some_iff.1 h).1
 have e : l.take (i + 1) = l.take i ++ [x] := by rw [List.take_add_one, h]; rfl
 rw [e]
 unfold qs
 rw [List.foldl_append]; rfl
theorem dp {wA W W' : World} {B : Nat} (h : Below B wA W) (hB : B ≤ wA.heap.size) (k : Below W.heap.size W W') : Below B wA W' :=
 ⟨k.os.trans h.os, k.tape.trans h.tape, k.output.trans h.output, Nat.le_trans h.size k.size, fun i hi => (k.block i (by have := h.size; omega)).trans (h.block i hi)⟩
theorem og {wA W W' : World} {B m : Nat} (h : Below B wA W) (hB : B ≤ wA.heap.size) (k : W.grownBy W' (some m)) (hm : B ≤ m) : Below B wA W' :=
 ⟨k.os.trans h.os, k.tape.trans h.tape, k.output.trans h.output, Nat.le_trans h.size k.size, fun i hi => (k.block i (by have := h.size; omega) (by simp; omega)).trans (h.block i hi)⟩
theorem avo (w : World) : IsG ((w.alloc (.map #[] 0)).alloc (.cells #[.map (some w.heap.size)] 213)) w.heap.size (w.heap.size + 1) w.heap.size 0 fun _ => none := by
 refine ⟨Nat.le_succ _, Nat.le_refl _, ?_, fun _ => none, ?_, fun k => ⟨by simp, fun v l h => by cases h⟩⟩
 ·have := heap_alloc_new (w.alloc (.map #[] 0)) (.cells #[.map (some w.heap.size)] 213)
  simpa using this
 ·exact (fh.made Tryz.prog 9 w).uj (Below.heap_alloc _ _ _ (by simp))
theorem aof {w : World} {B : Nat} {v : Value} {l : List Bs} (hv : w.ownsRow B 9 1 v l.length (l.map encStr)) (hl : ∀ x ∈ l, x.length ≤ maxLen) (hn : l.length ≤ 1073741824) :
  Calls Tryz.prog 115 #[v] w fun e w' => ∃ bg bm, e = .returned (.pointer (some ⟨bg, 0, none⟩)) ∧ IsG w' w.heap.size bg bm l.length (qs l) ∧ Below w.heap.size w w' := by
 obtain ⟨A, cap, rfl, hA⟩ := j9 hv
 have hA := Lib.hid hA
 have hI := avo w
 have hmm := @run_makeMap Tryz.prog
 have hB0 : Below w.heap.size w ((w.alloc (.map #[] 0)).alloc (.cells #[.map (some w.heap.size)] 213)) := ((Below.refl _ w).alloc (Nat.le_refl _) _).alloc (by simp) _
 have hI := Lib.hid hI
 have hB0 := Lib.hid hB0
 clear hv
 go_enter Tryz.func115, Tryz.ntmps115
 go_wp2_with fail
 go_loopg [11] l.length (fun gk v11 W => ∃ i : Nat, i + gk = l.length ∧ v11 = .int .i64 i ∧ Ax (IsG W w.heap.size (w.heap.size + 1) w.heap.size i (qs (l.take i)) ∧ Below w.heap.size w W))
 case atStart => exact ⟨0, by omega, rfl, ⟨by simpa [qs] using hI.out, hB0.out⟩⟩
 case round =>
  clear hI hB0 hmm
  obtain ⟨i, hig, rfl, HM⟩ := hrel
  by_cases hi : i < l.length
  ·obtain ⟨g1, rfl⟩ : ∃ j, gk = j + 1 := ⟨gk - 1, by omega⟩
   obtain ⟨x, hx⟩ : ∃ x, l[i]? = some x := ⟨l[i], List.getElem?_eq_getElem hi⟩
   obtain ⟨g, rfl, hg, _, hcell⟩ := hA.out i x hx
   have hc : wr.cell? ⟨g, i, none⟩ = some (.string ⟨x.toArray⟩) := by rw [World.cell?_of_block (HM.out.2.block g hg)]; exact hcell
   have hxl : (⟨x.toArray⟩ : ByteArray).size ≤ maxLen := by rw [size_mk]; exact hl x (List.mem_of_getElem? hx)
   have C := Lib.hid (aoe HM.out.1 ⟨x.toArray⟩ hxl (by unfold maxLen; omega))
   clear hcell
   go_wp2_with fail
   refine C.out.mono ?_
   rintro e w1 ⟨rfl, hI1, hg1⟩
   have hrel1 := Lib.hid (show Ax (IsG w1 w.heap.size (w.heap.size + 1) w.heap.size (i + 1) (qs (l.take (i + 1))) ∧ Below w.heap.size w w1) from ⟨by rw [aik hx]; simpa using hI1, og HM.out.2 (Nat.le_refl _) hg1 (Nat.le_refl _)⟩)
   clear hI1 hg1 C
   go_wp2_with fail
   go_roundg g1
   case measure => omega
   case rel => exact ⟨i + 1, by omega, by go_num, hrel1.out⟩
  ·obtain rfl : gk = 0 := by omega
   obtain rfl : i = l.length := by omega
   go_wp2_with fail
   go_ret
   exact ⟨_, _, rfl, by simpa using HM.out.1, HM.out.2⟩
structure ajq (f : Gr) (n : Nat) (l : List Bs) : Prop where
 ris : Ris l
 mem : ∀ k, k ∈ l ↔ f k ≠ none
 len : l.length ≤ n
 small : ∀ k ∈ l, k.length ≤ maxLen
theorem aay {w : World} {B bg bm n : Nat} {f : Gr} (h : IsG w B bg bm n f) (hn : n ≤ 1073741824) :
  Calls Tryz.prog 162 #[.pointer (some ⟨bg, 0, none⟩)] w fun e w' => ∃ v l, e = .returned v ∧ ajq f n l ∧ w'.ownsRow w.heap.size 9 1 v l.length (l.map encStr) ∧ Below w.heap.size w w' := by
 obtain ⟨F, ⟨D, hown, rfl⟩, h2⟩ := h.map
 have hc := h.cell
 have hlen := alb (k := 9) Tryz.underlying9 hown
 have hnd := nodup_keys (k := 9) Tryz.underlying9 hown
 have hmem := mem_keys (k := 9) Tryz.underlying9 hown
 have hsm := strKeys_le hown Tryz.underlying9
 have hsz := hown.size_le
 have hmax : Maps.size D ≤ maxLen := by unfold maxLen; omega
 have hbytes : Maps.size D * 16 ≤ 140737488355328 := by omega
 have hfK : Fence.wide.fn 204 := trivial
 have hfS : Fence.wide.fn 165 := trivial
 have KS := Lib.hid fun W (hW : W = w) => Tryz.vh bm n D tn w hown hmax hbytes
 have hkm : ∀ k, k ∈ strKeys D ↔ f k ≠ none := fun k => by
  rw [hmem k]
  exact not_congr (h2 k).1
 have hP : ∀ ss : List Bs, ss.Perm (strKeys D) → ajq f n (ss.mergeSort fun x y => decide (x ≤ y)) := fun ss hp => by
  have hp' := (List.mergeSort_perm ss fun x y => decide (x ≤ y)).trans hp
  exact ⟨mw (hp.nodup_iff.2 hnd), fun k => by rw [hp'.mem_iff]; exact hkm k, by rw [hp'.length_eq]; exact hlen, fun k hk => hsm k (hp'.mem_iff.1 hk)⟩
 have hP := Lib.hid hP
 clear h h2 hlen hnd hmem hsm hsz hmax hbytes hkm hown
 refine (callsIn_wide (n := 6)).1 ?_
 refine callsIn_of_wp Tryz.func162 rfl trivial ?_ rfl
 simp only [Tryz.ntmps162, List.size_toArray, List.length_cons, List.length_nil, Nat.reduceAdd, Nat.reduceSub, Array.replicate_succ, Array.replicate_zero, List.push_toArray, List.append_toArray, List.nil_append, List.cons_append]
 gi_wp2_with (first
  | (gi_at_call 204; refine (Tryz.aja _ _).mono ?_; rintro e w' ⟨rfl, rfl⟩)
  | (gi_at_call 165; refine (KS.out w rfl).mono ?_; rintro e w' ⟨v, ss, rfl, hS, hrow, hnil, hb⟩))
 go_ret
 refine ⟨v, _, rfl, hP.out ss hS, ?_, ((Below.refl _ w).alloc (Nat.le_refl _) _).trans (hb.mono (by simp))⟩
 rw [List.length_mergeSort]
 exact my hrow (by simp)
theorem ale {w : World} {B bg bm n : Nat} {f : Gr} (h : IsG w B bg bm n f) (k : ByteArray) (hk : k.size ≤ maxLen) (hb : ∀ l, f k.data.toList = some l → l.length ≤ 1073741824) :
  Calls Tryz.prog 163 #[.pointer (some ⟨bg, 0, none⟩), .string k] w fun e w' => ∃ v, e = .returned v ∧ w'.ownsRow w.heap.size 9 1 v ((f k.data.toList).getD []).length (((f k.data.toList).getD []).map encStr) ∧ Below w.heap.size w w' := by
 obtain ⟨F, h1, h2⟩ := h.map
 have hl := h1.apk Tryz.underlying9 Tryz.underlying211 (Tryz.zeroValue37 w) k hk
 have hc := h.cell
 have hrow : ∃ u, (F k.data.toList).getD (.slice none 0 0) = u ∧ w.ownsRow B 9 1 u ((f k.data.toList).getD []).length (((f k.data.toList).getD []).map encStr) := by
  refine ⟨_, rfl, ?_⟩
  have h3 := h2 k.data.toList
  cases hF : F k.data.toList with
  | none => rw [h3.1.1 hF]; exact ⟨rfl, .inl ⟨rfl, rfl⟩⟩
  | some v =>
   cases hf : f k.data.toList with
   | none => rw [h3.1.2 hf] at hF; cases hF
   | some l => exact h3.2 v l hF hf
 have hbl : ((f k.data.toList).getD []).length ≤ 1073741824 := by
  cases hf : f k.data.toList with
  | none => simp
  | some l => exact hb l hf
 generalize (f k.data.toList).getD [] = l at *
 obtain ⟨u, hu, hrow⟩ := hrow
 rw [hu] at hl
 clear hu h h1 h2 hb
 have hC : Calls Tryz.prog 160 #[u] w fun e w' => ∃ v', e = .returned v' ∧ w'.ownsRow w.heap.size 9 1 v' l.length (l.map encStr) ∧ Below w.heap.size w w' := by
  obtain ⟨A, cap, rfl, hA⟩ := j9 hrow
  cases l with
  | nil =>
   cases A with
   | none => exact (Any.slices_Clone_string_nil Tryz.sn 0 cap w).mono fun e w' ⟨he, hw⟩ => ⟨_, he, ⟨rfl, .inl ⟨rfl, rfl⟩⟩, by subst hw; exact Below.refl _ _⟩
   | some a => exact (Any.slices_Clone_string_zero Tryz.sn a cap w).mono fun e w' ⟨v', he, h1, _, h2⟩ => ⟨v', he, h1, h2⟩
  | cons x l =>
   obtain ⟨g, rfl, _, _, _⟩ := hA 0 x rfl
   refine (Any.slices_Clone_string Tryz.sn g 0 (x :: l).length cap ((x :: l).map fun y => ⟨y.toArray⟩) w (by simp) (by omega) fun j hj => ?_).mono fun e w' ⟨v', he, h1, _, h2⟩ => ⟨v', he, ?_, h2⟩
   ·rw [List.length_map] at hj
    obtain ⟨g', e, _, _, hc⟩ := hA j _ (List.getElem?_eq_getElem hj)
    cases e
    rw [Nat.zero_add, hc]
    have : ((x :: l).map fun y => (⟨y.toArray⟩ : ByteArray)).getD j ByteArray.empty = ⟨((x :: l)[j]).toArray⟩ := by
     rw [List.getD_eq_getElem?_getD, List.getElem?_map, List.getElem?_eq_getElem hj]; rfl
    rw [this]
   ·have e : ((List.map (fun y => (⟨y.toArray⟩ : ByteArray)) (x :: l)).take (x :: l).length).map Value.string = (x :: l).map encStr := by
     rw [List.take_of_length_le (by simp), List.map_map]; rfl
    rw [e] at h1
    exact h1
 have hC := Lib.hid hC
 go_enter Tryz.func163, Tryz.ntmps163
 go_wp2_with fail
 refine hC.out.mono ?_
 rintro e w' ⟨v, rfl, h1, h2⟩
 have h1 := Lib.hid h1
 have h2 := Lib.hid h2
 go_wp2_with fail
 go_ret
 exact ⟨v, rfl, h1.out, h2.out⟩
end Go.Proofs.YtmdimhcjogjcgaaGreatDoor.Gr
