/- Tables of this seat: types, results that the caller holds, where loops and joins are cut (printed by gen.py). -/
import Derived.Test.YtffojfcinkihnaaDoorAbsC
import Derived.Test.YtffojfcinkihnaaDoorProg
import Derived.KernelRfl
import Derived.Test.YtffojfcinkihnaaDoorAbsOr
set_option linter.unusedVariables false
set_option linter.unusedSimpArgs false
set_option linter.unusedSectionVars false
set_option linter.deprecated false
set_option linter.unnecessarySimpa false
namespace Go.Proofs.YtffojfcinkihnaaDoor.Abs
set_option linter.unusedVariables false
set_option maxRecDepth 100000
noncomputable def TT (n : Nat) : Option TI := pick2 (Nat.blt n 54) (pick2 (Nat.blt n 28) (pick2 (Nat.blt n 12) (pick2 (Nat.blt n 6) (pick2 (Nat.blt n 3) (pick2 (Nat.blt n 2) (pick2 (Nat.beq n 1) (some ⟨.func, 1, 8, [AV.undef]⟩) none) (pick2 (Nat.beq n 2) (some ⟨.int .i64, 1, 8, [AV.int .i64 0]⟩) none)) (pick2 (Nat.blt n 4) (pick2 (Nat.beq n 3) (some ⟨.int .i64, 1, 8, [AV.int .i64 0]⟩) none) (pick2 (Nat.blt n 5) (pick2 (Nat.beq n 4) (some ⟨.bool, 1, 1, [AV.bool false]⟩) none) (pick2 (Nat.beq n 5) (some ⟨.int .u8, 1, 1, [AV.int .u8 0]⟩) none)))) (pick2 (Nat.blt n 9) (pick2 (Nat.blt n 7) (pick2 (Nat.beq n 6) (some ⟨.int .u8, 1, 1, [AV.int .u8 0]⟩) none) (pick2 (Nat.blt n 8) (pick2 (Nat.beq n 7) (some ⟨.struct [(0, 2), (1, 3), (2, 4), (3, 6)], 4, 24, [AV.int .i64 0, AV.int .i64 0, AV.bool false, AV.int .u8 0]⟩) none) (pick2 (Nat.beq n 8) (some ⟨.struct [(0, 2), (1, 3), (2, 4), (3, 6)], 4, 24, [AV.int .i64 0, AV.int .i64 0, AV.bool false, AV.int .u8 0]⟩) none))) (pick2 (Nat.blt n 10) (pick2 (Nat.beq n 9) (some ⟨.str, 1, 16, [AV.str []]⟩) none) (pick2 (Nat.blt n 11) (pick2 (Nat.beq n 10) (some ⟨.str, 1, 16, [AV.str []]⟩) none) (pick2 (Nat.beq n 11) (some ⟨.str, 1, 16, [AV.str []]⟩) none))))) (pick2 (Nat.blt n 22) (pick2 (Nat.blt n 18) (pick2 (Nat.blt n 13) (pick2 (Nat.beq n 12) (some ⟨.int .u64, 1, 8, [AV.int .u64 0]⟩) none) (pick2 (Nat.blt n 14) (pick2 (Nat.beq n 13) (some ⟨.struct [(0, 9), (1, 12)], 2, 24, [AV.str [], AV.int .u64 0]⟩) none) (pick2 (Nat.beq n 14) (some ⟨.struct [(0, 9), (1, 12)], 2, 24, [AV.str [], AV.int .u64 0]⟩) none))) (pick2 (Nat.blt n 19) (pick2 (Nat.beq n 18) (some ⟨.struct [(0, 17)], 1, 8, [AV.undef]⟩) none) (pick2 (Nat.blt n 21) (pick2 (Nat.beq n 19) (some ⟨.struct [(0, 17)], 1, 8, [AV.undef]⟩) none) (pick2 (Nat.beq n 21) (some ⟨.int .i32, 1, 4, [AV.int .i32 0]⟩) none)))) (pick2 (Nat.blt n 25) (pick2 (Nat.blt n 23) (pick2 (Nat.beq n 22) (some ⟨.slice 38, 1, 24, [AV.own 8 []]⟩) none) (pick2 (Nat.blt n 24) (pick2 (Nat.beq n 23) (some ⟨.struct [(0, 22)], 1, 24, [AV.own 8 []]⟩) none) (pick2 (Nat.beq n 24) (some ⟨.struct [(0, 22)], 1, 24, [AV.own 8 []]⟩) none))) (pick2 (Nat.blt n 26) (pick2 (Nat.beq n 25) (some ⟨.slice 3, 1, 24, [AV.own 1 []]⟩) none) (pick2 (Nat.blt n 27) (pick2 (Nat.beq n 26) (some ⟨.func, 1, 8, [AV.undef]⟩) none) (pick2 (Nat.beq n 27) (some ⟨.func, 1, 8, [AV.undef]⟩) none)))))) (pick2 (Nat.blt n 41) (pick2 (Nat.blt n 35) (pick2 (Nat.blt n 32) (pick2 (Nat.blt n 30) (pick2 (Nat.beq n 28) (some ⟨.int .i64, 1, 8, [AV.int .i64 0]⟩) none) (pick2 (Nat.beq n 30) (some ⟨.func, 1, 8, [AV.undef]⟩) none)) (pick2 (Nat.blt n 33) (pick2 (Nat.beq n 32) (some ⟨.func, 1, 8, [AV.undef]⟩) none) (pick2 (Nat.blt n 34) (pick2 (Nat.beq n 33) (some ⟨.func, 1, 8, [AV.undef]⟩) none) (pick2 (Nat.beq n 34) (some ⟨.func, 1, 8, [AV.undef]⟩) none)))) (pick2 (Nat.blt n 38) (pick2 (Nat.blt n 36) (pick2 (Nat.beq n 35) (some ⟨.func, 1, 8, [AV.undef]⟩) none) (pick2 (Nat.blt n 37) (pick2 (Nat.beq n 36) (some ⟨.slice 40, 1, 24, [AV.own 2 []]⟩) none) (pick2 (Nat.beq n 37) (some ⟨.struct [(0, 3), (1, 3), (2, 3), (3, 9), (4, 4), (5, 4), (6, 4), (7, 36)], 8, 72, [AV.int .i64 0, AV.int .i64 0, AV.int .i64 0, AV.str [], AV.bool false, AV.bool false, AV.bool false, AV.own 2 []]⟩) none))) (pick2 (Nat.blt n 39) (pick2 (Nat.beq n 38) (some ⟨.struct [(0, 3), (1, 3), (2, 3), (3, 9), (4, 4), (5, 4), (6, 4), (7, 36)], 8, 72, [AV.int .i64 0, AV.int .i64 0, AV.int .i64 0, AV.str [], AV.bool false, AV.bool false, AV.bool false, AV.own 2 []]⟩) none) (pick2 (Nat.blt n 40) (pick2 (Nat.beq n 39) (some ⟨.struct [(0, 9), (1, 24)], 2, 40, [AV.str [], AV.own 8 []]⟩) none) (pick2 (Nat.beq n 40) (some ⟨.struct [(0, 9), (1, 24)], 2, 40, [AV.str [], AV.own 8 []]⟩) none))))) (pick2 (Nat.blt n 48) (pick2 (Nat.blt n 45) (pick2 (Nat.blt n 42) (pick2 (Nat.beq n 41) (some ⟨.func, 1, 8, [AV.undef]⟩) none) (pick2 (Nat.blt n 43) (pick2 (Nat.beq n 42) (some ⟨.func, 1, 8, [AV.undef]⟩) none) (pick2 (Nat.beq n 43) (some ⟨.func, 1, 8, [AV.undef]⟩) none))) (pick2 (Nat.blt n 46) (pick2 (Nat.beq n 45) (some ⟨.func, 1, 8, [AV.undef]⟩) none) (pick2 (Nat.blt n 47) (pick2 (Nat.beq n 46) (some ⟨.func, 1, 8, [AV.undef]⟩) none) (pick2 (Nat.beq n 47) (some ⟨.func, 1, 8, [AV.undef]⟩) none)))) (pick2 (Nat.blt n 51) (pick2 (Nat.blt n 49) (pick2 (Nat.beq n 48) (some ⟨.func, 1, 8, [AV.undef]⟩) none) (pick2 (Nat.blt n 50) (pick2 (Nat.beq n 49) (some ⟨.func, 1, 8, [AV.undef]⟩) none) (pick2 (Nat.beq n 50) (some ⟨.func, 1, 8, [AV.undef]⟩) none))) (pick2 (Nat.blt n 52) (pick2 (Nat.beq n 51) (some ⟨.func, 1, 8, [AV.undef]⟩) none) (pick2 (Nat.blt n 53) (pick2 (Nat.beq n 52) (some ⟨.func, 1, 8, [AV.undef]⟩) none) (pick2 (Nat.beq n 53) (some ⟨.func, 1, 8, [AV.undef]⟩) none))))))) (pick2 (Nat.blt n 79) (pick2 (Nat.blt n 66) (pick2 (Nat.blt n 60) (pick2 (Nat.blt n 56) (pick2 (Nat.blt n 55) (pick2 (Nat.beq n 54) (some ⟨.func, 1, 8, [AV.undef]⟩) none) (pick2 (Nat.beq n 55) (some ⟨.func, 1, 8, [AV.undef]⟩) none)) (pick2 (Nat.blt n 57) (pick2 (Nat.beq n 56) (some ⟨.func, 1, 8, [AV.undef]⟩) none) (pick2 (Nat.blt n 59) (pick2 (Nat.beq n 57) (some ⟨.func, 1, 8, [AV.undef]⟩) none) (pick2 (Nat.beq n 59) (some ⟨.func, 1, 8, [AV.undef]⟩) none)))) (pick2 (Nat.blt n 63) (pick2 (Nat.blt n 61) (pick2 (Nat.beq n 60) (some ⟨.func, 1, 8, [AV.undef]⟩) none) (pick2 (Nat.blt n 62) (pick2 (Nat.beq n 61) (some ⟨.func, 1, 8, [AV.undef]⟩) none) (pick2 (Nat.beq n 62) (some ⟨.func, 1, 8, [AV.undef]⟩) none))) (pick2 (Nat.blt n 64) (pick2 (Nat.beq n 63) (some ⟨.func, 1, 8, [AV.undef]⟩) none) (pick2 (Nat.blt n 65) (pick2 (Nat.beq n 64) (some ⟨.func, 1, 8, [AV.undef]⟩) none) (pick2 (Nat.beq n 65) (some ⟨.func, 1, 8, [AV.undef]⟩) none))))) (pick2 (Nat.blt n 72) (pick2 (Nat.blt n 69) (pick2 (Nat.blt n 67) (pick2 (Nat.beq n 66) (some ⟨.func, 1, 8, [AV.undef]⟩) none) (pick2 (Nat.blt n 68) (pick2 (Nat.beq n 67) (some ⟨.func, 1, 8, [AV.undef]⟩) none) (pick2 (Nat.beq n 68) (some ⟨.func, 1, 8, [AV.undef]⟩) none))) (pick2 (Nat.blt n 70) (pick2 (Nat.beq n 69) (some ⟨.int .u64, 1, 8, [AV.int .u64 0]⟩) none) (pick2 (Nat.blt n 71) (pick2 (Nat.beq n 70) (some ⟨.array 20 5, 20, 20, [AV.int .u8 0, AV.int .u8 0, AV.int .u8 0, AV.int .u8 0, AV.int .u8 0, AV.int .u8 0, AV.int .u8 0, AV.int .u8 0, AV.int .u8 0, AV.int .u8 0, AV.int .u8 0, AV.int .u8 0, AV.int .u8 0, AV.int .u8 0, AV.int .u8 0, AV.int .u8 0, AV.int .u8 0, AV.int .u8 0, AV.int .u8 0, AV.int .u8 0]⟩) none) (pick2 (Nat.beq n 71) (some ⟨.slice 5, 1, 24, [AV.own 1 []]⟩) none)))) (pick2 (Nat.blt n 76) (pick2 (Nat.blt n 73) (pick2 (Nat.beq n 72) (some ⟨.func, 1, 8, [AV.undef]⟩) none) (pick2 (Nat.blt n 74) (pick2 (Nat.beq n 73) (some ⟨.slice 9, 1, 24, [AV.own 1 []]⟩) none) (pick2 (Nat.beq n 74) (some ⟨.func, 1, 8, [AV.undef]⟩) none))) (pick2 (Nat.blt n 77) (pick2 (Nat.beq n 76) (some ⟨.func, 1, 8, [AV.undef]⟩) none) (pick2 (Nat.blt n 78) (pick2 (Nat.beq n 77) (some ⟨.func, 1, 8, [AV.undef]⟩) none) (pick2 (Nat.beq n 78) (some ⟨.func, 1, 8, [AV.undef]⟩) none)))))) (pick2 (Nat.blt n 92) (pick2 (Nat.blt n 86) (pick2 (Nat.blt n 82) (pick2 (Nat.blt n 80) (pick2 (Nat.beq n 79) (some ⟨.func, 1, 8, [AV.undef]⟩) none) (pick2 (Nat.blt n 81) (pick2 (Nat.beq n 80) (some ⟨.func, 1, 8, [AV.undef]⟩) none) (pick2 (Nat.beq n 81) (some ⟨.func, 1, 8, [AV.undef]⟩) none))) (pick2 (Nat.blt n 84) (pick2 (Nat.beq n 82) (some ⟨.func, 1, 8, [AV.undef]⟩) none) (pick2 (Nat.blt n 85) (pick2 (Nat.beq n 84) (some ⟨.func, 1, 8, [AV.undef]⟩) none) (pick2 (Nat.beq n 85) (some ⟨.func, 1, 8, [AV.undef]⟩) none)))) (pick2 (Nat.blt n 89) (pick2 (Nat.blt n 87) (pick2 (Nat.beq n 86) (some ⟨.func, 1, 8, [AV.undef]⟩) none) (pick2 (Nat.blt n 88) (pick2 (Nat.beq n 87) (some ⟨.func, 1, 8, [AV.undef]⟩) none) (pick2 (Nat.beq n 88) (some ⟨.func, 1, 8, [AV.undef]⟩) none))) (pick2 (Nat.blt n 90) (pick2 (Nat.beq n 89) (some ⟨.func, 1, 8, [AV.undef]⟩) none) (pick2 (Nat.blt n 91) (pick2 (Nat.beq n 90) (some ⟨.int .u64, 1, 8, [AV.int .u64 0]⟩) none) (pick2 (Nat.beq n 91) (some ⟨.func, 1, 8, [AV.undef]⟩) none))))) (pick2 (Nat.blt n 101) (pick2 (Nat.blt n 95) (pick2 (Nat.blt n 93) (pick2 (Nat.beq n 92) (some ⟨.array 9 9, 9, 144, [AV.str [], AV.str [], AV.str [], AV.str [], AV.str [], AV.str [], AV.str [], AV.str [], AV.str []]⟩) none) (pick2 (Nat.blt n 94) (pick2 (Nat.beq n 93) (some ⟨.func, 1, 8, [AV.undef]⟩) none) (pick2 (Nat.beq n 94) (some ⟨.struct [(0, 17), (1, 17), (2, 17), (3, 9)], 4, 40, [AV.undef, AV.undef, AV.undef, AV.str []]⟩) none))) (pick2 (Nat.blt n 99) (pick2 (Nat.beq n 95) (some ⟨.struct [(0, 17), (1, 17), (2, 17), (3, 9)], 4, 40, [AV.undef, AV.undef, AV.undef, AV.str []]⟩) none) (pick2 (Nat.blt n 100) (pick2 (Nat.beq n 99) (some ⟨.int .u32, 1, 4, [AV.int .u32 0]⟩) none) (pick2 (Nat.beq n 100) (some ⟨.int .u8, 1, 1, [AV.int .u8 0]⟩) none)))) (pick2 (Nat.blt n 105) (pick2 (Nat.blt n 102) (pick2 (Nat.beq n 101) (some ⟨.int .u8, 1, 1, [AV.int .u8 0]⟩) none) (pick2 (Nat.blt n 104) (pick2 (Nat.beq n 102) (some ⟨.func, 1, 8, [AV.undef]⟩) none) (pick2 (Nat.beq n 104) (some ⟨.int .i32, 1, 4, [AV.int .i32 0]⟩) none))) (pick2 (Nat.blt n 106) (pick2 (Nat.beq n 105) (some ⟨.int .i32, 1, 4, [AV.int .i32 0]⟩) none) (pick2 (Nat.blt n 107) (pick2 (Nat.beq n 106) (some ⟨.struct [(0, 12), (1, 12), (2, 99), (3, 100), (4, 5), (5, 5), (6, 101), (7, 102), (8, 103), (9, 104), (10, 105)], 11, 48, [AV.int .u64 0, AV.int .u64 0, AV.int .u32 0, AV.int .u8 0, AV.int .u8 0, AV.int .u8 0, AV.int .u8 0, AV.undef, AV.undef, AV.int .i32 0, AV.int .i32 0]⟩) none) (pick2 (Nat.beq n 107) (some ⟨.struct [(0, 12), (1, 12), (2, 99), (3, 100), (4, 5), (5, 5), (6, 101), (7, 102), (8, 103), (9, 104), (10, 105)], 11, 48, [AV.int .u64 0, AV.int .u64 0, AV.int .u32 0, AV.int .u8 0, AV.int .u8 0, AV.int .u8 0, AV.int .u8 0, AV.undef, AV.undef, AV.int .i32 0, AV.int .i32 0]⟩) none)))))))
noncomputable def UU (n : Nat) : Option (List Nat) := pick2 (Nat.blt n 44) (pick2 (Nat.blt n 29) (pick2 (Nat.beq n 0) (some []) none) (pick2 (Nat.blt n 31) (pick2 (Nat.beq n 29) (some [24, 3, 28]) none) (pick2 (Nat.beq n 31) (some [24, 3, 3]) none))) (pick2 (Nat.blt n 75) (pick2 (Nat.blt n 58) (pick2 (Nat.beq n 44) (some [24, 3]) none) (pick2 (Nat.beq n 58) (some [38, 28]) none)) (pick2 (Nat.blt n 83) (pick2 (Nat.beq n 75) (some [38, 4]) none) (pick2 (Nat.beq n 83) (some [3, 4]) none)))
noncomputable def RO (n : Nat) : List Bool := []
noncomputable def τ : Tab := ⟨fun t => pick2 (Nat.blt t 108) (TT t) none, RO, (fun n => pick2 (Nat.beq n 1) (some wordsL) none), UU⟩
noncomputable def ann11 (n : Nat) : Option (List Nat) := pick2 (Nat.blt n 8) (pick2 (Nat.beq n 3) (some [1, 3, 4]) none) (pick2 (Nat.beq n 8) (some [1, 3, 4, 5, 6]) none)
noncomputable def ann17 (n : Nat) : Option (List Nat) := pick2 (Nat.blt n 1000011) (pick2 (Nat.blt n 14) (pick2 (Nat.beq n 3) (some [1, 2, 3, 6, 8, 9]) none) (pick2 (Nat.beq n 14) (some [1, 2, 3, 6, 8, 9, 10, 12, 13]) none)) (pick2 (Nat.blt n 1000012) (pick2 (Nat.beq n 1000011) (some [1, 2, 3, 6, 8, 9, 10, 11]) none) (pick2 (Nat.beq n 1000012) (some [1, 2, 3, 6, 8, 9, 10]) none))
noncomputable def ann18 (n : Nat) : Option (List Nat) := pick2 (Nat.beq n 2) (some [2, 3, 5]) none
noncomputable def ann20 (n : Nat) : Option (List Nat) := pick2 (Nat.blt n 9) (pick2 (Nat.beq n 4) (some [1, 3]) none) (pick2 (Nat.blt n 12) (pick2 (Nat.beq n 9) (some [1, 4]) none) (pick2 (Nat.beq n 12) (some [1, 4, 5]) none))
noncomputable def ann21 (n : Nat) : Option (List Nat) := pick2 (Nat.blt n 6) (pick2 (Nat.beq n 2) (some [2, 3, 5]) none) (pick2 (Nat.beq n 6) (some [2, 3, 5, 6, 7]) none)
noncomputable def ann22 (n : Nat) : Option (List Nat) := pick2 (Nat.blt n 11) (pick2 (Nat.beq n 4) (some [1, 2, 3, 7]) none) (pick2 (Nat.beq n 11) (some [1, 2, 3, 7, 8, 9]) none)
noncomputable def ann30 (n : Nat) : Option (List Nat) := pick2 (Nat.beq n 7) (some [1, 5, 6]) none
noncomputable def ann32 (n : Nat) : Option (List Nat) := pick2 (Nat.beq n 5) (some [2, 3, 6]) none
noncomputable def ann34 (n : Nat) : Option (List Nat) := pick2 (Nat.blt n 7) (pick2 (Nat.beq n 3) (some [1, 3, 4]) none) (pick2 (Nat.beq n 7) (some [1, 3, 4, 5, 6]) none)
noncomputable def ann35 (n : Nat) : Option (List Nat) := pick2 (Nat.beq n 8) (some [1, 3]) none
noncomputable def ann36 (n : Nat) : Option (List Nat) := pick2 (Nat.blt n 13) (pick2 (Nat.beq n 8) (some [2, 3, 5]) none) (pick2 (Nat.beq n 13) (some [2, 3, 6]) none)
noncomputable def ann37 (n : Nat) : Option (List Nat) := pick2 (Nat.blt n 10) (pick2 (Nat.beq n 4) (some [1, 2, 20, 21, 22]) none) (pick2 (Nat.blt n 13) (pick2 (Nat.beq n 10) (some [2, 48, 49, 50]) none) (pick2 (Nat.beq n 13) (some [2, 7, 8, 48, 49, 50, 56, 57, 58]) none))
noncomputable def ann38 (n : Nat) : Option (List Nat) := pick2 (Nat.blt n 6) (pick2 (Nat.beq n 3) (some [3, 12, 13, 14]) none) (pick2 (Nat.beq n 6) (some [3, 12, 13, 14, 19, 20, 21]) none)
noncomputable def ann42 (n : Nat) : Option (List Nat) := pick2 (Nat.beq n 1000011) (some [1, 3, 4]) none
noncomputable def ann53 (n : Nat) : Option (List Nat) := pick2 (Nat.beq n 3) (some [0, 3, 4]) none
noncomputable def ann55 (n : Nat) : Option (List Nat) := pick2 (Nat.beq n 2) (some [0, 1, 5]) none
noncomputable def ann56 (n : Nat) : Option (List Nat) := pick2 (Nat.beq n 8) (some [1, 31, 32, 33]) none
noncomputable def ann58 (n : Nat) : Option (List Nat) := pick2 (Nat.beq n 8) (some [2, 40, 41, 42]) none
noncomputable def ann59 (n : Nat) : Option (List Nat) := pick2 (Nat.beq n 2) (some [0, 1, 7, 8]) none
noncomputable def ann62 (n : Nat) : Option (List Nat) := pick2 (Nat.beq n 2) (some [0, 3]) none
noncomputable def ann63 (n : Nat) : Option (List Nat) := pick2 (Nat.blt n 1000013) (pick2 (Nat.beq n 1000011) (some [2, 3, 4, 6]) none) (pick2 (Nat.blt n 1000015) (pick2 (Nat.beq n 1000013) (some [2, 3, 4, 6]) none) (pick2 (Nat.beq n 1000015) (some [2, 3, 4, 6]) none))
noncomputable def ann67 (n : Nat) : Option (List Nat) := pick2 (Nat.beq n 2) (some [0, 5, 6, 7]) none
noncomputable def ann68 (n : Nat) : Option (List Nat) := pick2 (Nat.beq n 2) (some [5, 6, 7]) none
noncomputable def ann72 (n : Nat) : Option (List Nat) := pick2 (Nat.beq n 2) (some [0, 1, 2, 13, 14]) none
noncomputable def ann77 (n : Nat) : Option (List Nat) := pick2 (Nat.beq n 2) (some [3, 8, 9, 10]) none
noncomputable def ann78 (n : Nat) : Option (List Nat) := pick2 (Nat.beq n 4) (some [0, 3]) none
noncomputable def ann83 (n : Nat) : Option (List Nat) := pick2 (Nat.beq n 1000011) (some [2, 3, 4, 6]) none
noncomputable def ann86 (n : Nat) : Option (List Nat) := pick2 (Nat.beq n 3) (some [0, 1, 2, 8, 9, 10]) none
noncomputable def ann94 (n : Nat) : Option (List Nat) := pick2 (Nat.beq n 2) (some [0, 1, 2, 13, 14]) none
noncomputable def ann95 (n : Nat) : Option (List Nat) := pick2 (Nat.beq n 2) (some [0, 1, 7, 8]) none
noncomputable def ann (n : Nat) : Nat → Option (List Nat) := pick2 (Nat.blt n 55) (pick2 (Nat.blt n 32) (pick2 (Nat.blt n 20) (pick2 (Nat.blt n 17) (pick2 (Nat.beq n 11) (ann11) (fun _ => none)) (pick2 (Nat.blt n 18) (pick2 (Nat.beq n 17) (ann17) (fun _ => none)) (pick2 (Nat.beq n 18) (ann18) (fun _ => none)))) (pick2 (Nat.blt n 22) (pick2 (Nat.blt n 21) (pick2 (Nat.beq n 20) (ann20) (fun _ => none)) (pick2 (Nat.beq n 21) (ann21) (fun _ => none))) (pick2 (Nat.blt n 30) (pick2 (Nat.beq n 22) (ann22) (fun _ => none)) (pick2 (Nat.beq n 30) (ann30) (fun _ => none))))) (pick2 (Nat.blt n 37) (pick2 (Nat.blt n 35) (pick2 (Nat.blt n 34) (pick2 (Nat.beq n 32) (ann32) (fun _ => none)) (pick2 (Nat.beq n 34) (ann34) (fun _ => none))) (pick2 (Nat.blt n 36) (pick2 (Nat.beq n 35) (ann35) (fun _ => none)) (pick2 (Nat.beq n 36) (ann36) (fun _ => none)))) (pick2 (Nat.blt n 42) (pick2 (Nat.blt n 38) (pick2 (Nat.beq n 37) (ann37) (fun _ => none)) (pick2 (Nat.beq n 38) (ann38) (fun _ => none))) (pick2 (Nat.blt n 53) (pick2 (Nat.beq n 42) (ann42) (fun _ => none)) (pick2 (Nat.beq n 53) (ann53) (fun _ => none)))))) (pick2 (Nat.blt n 68) (pick2 (Nat.blt n 59) (pick2 (Nat.blt n 56) (pick2 (Nat.beq n 55) (ann55) (fun _ => none)) (pick2 (Nat.blt n 58) (pick2 (Nat.beq n 56) (ann56) (fun _ => none)) (pick2 (Nat.beq n 58) (ann58) (fun _ => none)))) (pick2 (Nat.blt n 63) (pick2 (Nat.blt n 62) (pick2 (Nat.beq n 59) (ann59) (fun _ => none)) (pick2 (Nat.beq n 62) (ann62) (fun _ => none))) (pick2 (Nat.blt n 67) (pick2 (Nat.beq n 63) (ann63) (fun _ => none)) (pick2 (Nat.beq n 67) (ann67) (fun _ => none))))) (pick2 (Nat.blt n 83) (pick2 (Nat.blt n 77) (pick2 (Nat.blt n 72) (pick2 (Nat.beq n 68) (ann68) (fun _ => none)) (pick2 (Nat.beq n 72) (ann72) (fun _ => none))) (pick2 (Nat.blt n 78) (pick2 (Nat.beq n 77) (ann77) (fun _ => none)) (pick2 (Nat.beq n 78) (ann78) (fun _ => none)))) (pick2 (Nat.blt n 94) (pick2 (Nat.blt n 86) (pick2 (Nat.beq n 83) (ann83) (fun _ => none)) (pick2 (Nat.beq n 86) (ann86) (fun _ => none))) (pick2 (Nat.blt n 95) (pick2 (Nat.beq n 94) (ann94) (fun _ => none)) (pick2 (Nat.beq n 95) (ann95) (fun _ => none))))))
noncomputable def OO (n : Nat) : Option (List AV → Option AV) := pick2 (Nat.blt n 79) (pick2 (Nat.blt n 46) (pick2 (Nat.beq n 6) (some oNone) none) (pick2 (Nat.beq n 46) (some oNumText) none)) (pick2 (Nat.blt n 93) (pick2 (Nat.beq n 79) (some oNameRight) none) (pick2 (Nat.beq n 93) (some oCmp) none))
noncomputable def S : Sys := ⟨τ, ann, OO, fun f => (Tryd.prog.funcs[f]?).bind toFD⟩
noncomputable def main_main : Option AV := ωκ S 0 []
noncomputable def gosem_cut : Option AV := ωκ S 1 []
noncomputable def gosem_cut_init : Option AV := ωκ S 2 []
noncomputable def law35_ApplyFills (a0 a1 : AV) : Option AV := ωκ S 3 [a0, a1]
noncomputable def law09_Few (a0 : AV) : Option AV := ωκ S 4 [a0]
noncomputable def law35_awake : Option AV := ωκ S 5 []
noncomputable def apply_Fill (a0 a1 : AV) : Option AV := ωκ S 6 [a0, a1]
noncomputable def ref35_Fill (a0 a1 : AV) : Option AV := ωκ S 7 [a0, a1]
noncomputable def ref08_Same (a0 a1 : AV) : Option AV := ωκ S 8 [a0, a1]
noncomputable def ref11_Refines (a0 a1 : AV) : Option AV := ωκ S 9 [a0, a1]
noncomputable def law08_Few (a0 : AV) : Option AV := ωκ S 10 [a0]
noncomputable def ref08_Weight (a0 : AV) : Option AV := ωκ S 11 [a0]
noncomputable def fact_Ready (a0 : AV) : Option AV := ωκ S 12 [a0]
noncomputable def rank_Copy (a0 : AV) : Option AV := ωκ S 13 [a0]
noncomputable def apply_fill (a0 a1 : AV) : Option AV := ωκ S 14 [a0, a1]
noncomputable def apply_Fill_1 (a0 a1 : AV) : Option AV := ωκ S 15 [a0, a1]
noncomputable def ref11_Ready (a0 : AV) : Option AV := ωκ S 16 [a0]
noncomputable def ref35_fill (a0 a1 a2 : AV) : Option AV := ωκ S 17 [a0, a1, a2]
noncomputable def ref08_Compare (a0 a1 : AV) : Option AV := ωκ S 18 [a0, a1]
noncomputable def ref11_Settled (a0 : AV) : Option AV := ωκ S 19 [a0]
noncomputable def ref09_Right (a0 : AV) : Option AV := ωκ S 20 [a0]
noncomputable def ref09_Under (a0 a1 : AV) : Option AV := ωκ S 21 [a0, a1]
noncomputable def law08_left (a0 a1 a2 : AV) : Option AV := ωκ S 22 [a0, a1, a2]
noncomputable def lat_Right (a0 : AV) : Option AV := ωκ S 23 [a0]
noncomputable def fact_all (a0 a1 : AV) : Option AV := ωκ S 24 [a0, a1]
noncomputable def fact_Ready_1 (a0 : AV) : Option AV := ωκ S 25 [a0]
noncomputable def scalar_Atom (a0 : AV) : Option AV := ωκ S 26 [a0]
noncomputable def slices_Clone__Term (a0 : AV) : Option AV := ωκ S 27 [a0]
noncomputable def slices_Clone__Field (a0 : AV) : Option AV := ωκ S 28 [a0]
noncomputable def apply_firm (a0 a1 : AV) : Option AV := ωκ S 29 [a0, a1]
noncomputable def ref11_settled (a0 a1 : AV) : Option AV := ωκ S 30 [a0, a1]
noncomputable def ref35_atom (a0 a1 : AV) : Option AV := ωκ S 31 [a0, a1]
noncomputable def ref08_Terms (a0 a1 : AV) : Option AV := ωκ S 32 [a0, a1]
noncomputable def ref08_nums (a0 a1 : AV) : Option AV := ωκ S 33 [a0, a1]
noncomputable def ref08_Depth (a0 : AV) : Option AV := ωκ S 34 [a0]
noncomputable def ref09_Term (a0 : AV) : Option AV := ωκ S 35 [a0]
noncomputable def ref09_under (a0 a1 : AV) : Option AV := ωκ S 36 [a0, a1]
noncomputable def lat_listed (a0 a1 : AV) : Option AV := ωκ S 37 [a0, a1]
noncomputable def rank_Weight (a0 : AV) : Option AV := ωκ S 38 [a0]
noncomputable def fact_one (a0 : AV) : Option AV := ωκ S 39 [a0]
noncomputable def slices_ContainsFunc__Field (a0 a1 : AV) : Option AV := ωκ S 40 [a0, a1]
noncomputable def fact_all_1 (a0 a1 : AV) : Option AV := ωκ S 41 [a0, a1]
noncomputable def scalar_Right (a0 : AV) : Option AV := ωκ S 42 [a0]
noncomputable def scalar_one (a0 : AV) : Option AV := ωκ S 43 [a0]
noncomputable def scalar_Truth (a0 : AV) : Option AV := ωκ S 44 [a0]
noncomputable def apply_modulo (a0 a1 : AV) : Option AV := ωκ S 45 [a0, a1]
noncomputable def num_Text (a0 : AV) : Option AV := ωκ S 46 [a0]
noncomputable def ref07_Single (a0 : AV) : Option AV := ωκ S 47 [a0]
noncomputable def ref35_mod (a0 a1 : AV) : Option AV := ωκ S 48 [a0, a1]
noncomputable def ref01_Text (a0 : AV) : Option AV := ωκ S 49 [a0]
noncomputable def ref08_plain (a0 a1 : AV) : Option AV := ωκ S 50 [a0, a1]
noncomputable def ref08_texts (a0 a1 : AV) : Option AV := ωκ S 51 [a0, a1]
noncomputable def ref07_Right (a0 : AV) : Option AV := ωκ S 52 [a0]
noncomputable def ref09_names (a0 : AV) : Option AV := ωκ S 53 [a0]
noncomputable def ref07_Below (a0 a1 : AV) : Option AV := ωκ S 54 [a0, a1]
noncomputable def ref09_Find (a0 a1 : AV) : Option AV := ωκ S 55 [a0, a1]
noncomputable def lat_shaped (a0 a1 : AV) : Option AV := ωκ S 56 [a0, a1]
noncomputable def rank_Terms (a0 a1 : AV) : Option AV := ωκ S 57 [a0, a1]
noncomputable def lat_below (a0 a1 : AV) : Option AV := ωκ S 58 [a0, a1]
noncomputable def slices_IndexFunc__Field (a0 a1 : AV) : Option AV := ωκ S 59 [a0, a1]
noncomputable def scalar_bare (a0 : AV) : Option AV := ωκ S 60 [a0]
noncomputable def ref08_bools (a0 a1 : AV) : Option AV := ωκ S 61 [a0, a1]
noncomputable def ref02_Rising (a0 : AV) : Option AV := ωκ S 62 [a0]
noncomputable def ref07_Meet (a0 a1 : AV) : Option AV := ωκ S 63 [a0, a1]
noncomputable def ref07_Same (a0 a1 : AV) : Option AV := ωκ S 64 [a0, a1]
noncomputable def lat_anything (a0 : AV) : Option AV := ωκ S 65 [a0]
noncomputable def lat_bare (a0 : AV) : Option AV := ωκ S 66 [a0]
noncomputable def lat_rising (a0 : AV) : Option AV := ωκ S 67 [a0]
noncomputable def rank_first (a0 : AV) : Option AV := ωκ S 68 [a0]
noncomputable def cmp_Compare__int (a0 a1 : AV) : Option AV := ωκ S 69 [a0, a1]
noncomputable def strings_Compare (a0 a1 : AV) : Option AV := ωκ S 70 [a0, a1]
noncomputable def rank_flag (a0 : AV) : Option AV := ωκ S 71 [a0]
noncomputable def rank_lists__Field (a0 a1 a2 : AV) : Option AV := ωκ S 72 [a0, a1, a2]
noncomputable def rank_fields (a0 a1 : AV) : Option AV := ωκ S 73 [a0, a1]
noncomputable def scalar_Below (a0 a1 : AV) : Option AV := ωκ S 74 [a0, a1]
noncomputable def lat_lacks (a0 a1 : AV) : Option AV := ωκ S 75 [a0, a1]
noncomputable def lat_find (a0 a1 : AV) : Option AV := ωκ S 76 [a0, a1]
noncomputable def lat_under (a0 a1 : AV) : Option AV := ωκ S 77 [a0, a1]
noncomputable def ref02_Right (a0 : AV) : Option AV := ωκ S 78 [a0]
noncomputable def name_Right (a0 : AV) : Option AV := ωκ S 79 [a0]
noncomputable def cmp_isNaN__int (a0 : AV) : Option AV := ωκ S 80 [a0]
noncomputable def internal_bytealg_CompareString (a0 a1 : AV) : Option AV := ωκ S 81 [a0, a1]
noncomputable def rank_Compare (a0 a1 : AV) : Option AV := ωκ S 82 [a0, a1]
noncomputable def scalar_Meet (a0 a1 : AV) : Option AV := ωκ S 83 [a0, a1]
noncomputable def scalar_Same (a0 a1 : AV) : Option AV := ωκ S 84 [a0, a1]
noncomputable def lat_lacks_1 (a0 a1 : AV) : Option AV := ωκ S 85 [a0, a1]
noncomputable def slices_BinarySearchFunc__Field (a0 a1 a2 : AV) : Option AV := ωκ S 86 [a0, a1, a2]
noncomputable def lat_find_1 (a0 a1 : AV) : Option AV := ωκ S 87 [a0, a1]
noncomputable def slices_ContainsFunc__Term (a0 a1 : AV) : Option AV := ωκ S 88 [a0, a1]
noncomputable def lat_under_1 (a0 a1 : AV) : Option AV := ωκ S 89 [a0, a1]
noncomputable def ref02_Word (a0 : AV) : Option AV := ωκ S 90 [a0]
noncomputable def name_Word (a0 : AV) : Option AV := ωκ S 91 [a0]
noncomputable def name_small (a0 : AV) : Option AV := ωκ S 92 [a0]
noncomputable def internal_bytealg_abigen_runtime_cmpstring (a0 a1 : AV) : Option AV := ωκ S 93 [a0, a1]
noncomputable def rank_lists__Term (a0 a1 a2 : AV) : Option AV := ωκ S 94 [a0, a1, a2]
noncomputable def slices_IndexFunc__Term (a0 a1 : AV) : Option AV := ωκ S 95 [a0, a1]
noncomputable def runtime_boundsError_Error (a0 : AV) : Option AV := ωκ S 96 [a0]
noncomputable def runtime_boundsError_RuntimeError (a0 : AV) : Option AV := ωκ S 97 [a0]
noncomputable def runtime_errorString_Error (a0 : AV) : Option AV := ωκ S 98 [a0]
noncomputable def runtime_errorString_RuntimeError (a0 : AV) : Option AV := ωκ S 99 [a0]
noncomputable def runtime_plainError_Error (a0 : AV) : Option AV := ωκ S 100 [a0]
noncomputable def runtime_plainError_RuntimeError (a0 : AV) : Option AV := ωκ S 101 [a0]
noncomputable def runtime_errorAddressString_Error (a0 : AV) : Option AV := ωκ S 102 [a0]
noncomputable def runtime_errorAddressString_RuntimeError (a0 : AV) : Option AV := ωκ S 103 [a0]
noncomputable def runtime_TypeAssertionError_Error (a0 : AV) : Option AV := ωκ S 104 [a0]
noncomputable def runtime_TypeAssertionError_RuntimeError (a0 : AV) : Option AV := ωκ S 105 [a0]
noncomputable def runtime_PanicNilError_Error (a0 : AV) : Option AV := ωκ S 106 [a0]
noncomputable def runtime_PanicNilError_RuntimeError (a0 : AV) : Option AV := ωκ S 107 [a0]
noncomputable def internal_abi_Type_Align (a0 : AV) : Option AV := ωκ S 108 [a0]
noncomputable def internal_runtime_maps_unhashableTypeError_Error (a0 : AV) : Option AV := ωκ S 109 [a0]
noncomputable def internal_runtime_maps_unhashableTypeError_RuntimeError (a0 : AV) : Option AV := ωκ S 110 [a0]
noncomputable def internal_abi_Kind_String (a0 : AV) : Option AV := ωκ S 111 [a0]
noncomputable def var_s_door_gosem_cut_vars_holds_initialisers_alone_see_the_manifest_s_row_cutvarsword_look_11_test_files_too : Option AV := ωκ S 112 []
noncomputable def var_s_door_the_look_of_gosem_cut_vars_went_over_the_folder_that_the_caller_named_as_the_repository_s_root_look_11 : Option AV := ωκ S 113 []
noncomputable def var_s_door_name_words_is_laid_by_its_own_initialiser_plain_data_look_11 : Option AV := ωκ S 114 []
noncomputable def gosem_cut_vars : Option AV := ωκ S 115 []
end Go.Proofs.YtffojfcinkihnaaDoor.Abs
