/- Tables of this seat: types, results that the caller holds, where loops and joins are cut (printed by gen.py). -/
import Derived.Test.YtmdimhcjogjcgaaGreatDoorGac
import Derived.Test.YtmdimhcjogjcgaaGreatDoorProg
import Derived.KernelRfl
import Derived.Test.YtmdimhcjogjcgaaGreatDoorGai
set_option linter.all false
set_option maxRecDepth 100000
noncomputable section
namespace Go.Proofs.YtmdimhcjogjcgaaGreatDoor.Abs
def lz {α : Type} (n k : Nat) (x y : α) : α := aa (Nat.blt n k) x y
def ez {α : Type} (n k : Nat) (x : α) : Option α := aa (Nat.beq n k) (some x) none
abbrev a8v (n m : Int) (s : List UInt8) (p q : List (List AV)) (o : Bool) (k p' q' k' : List (List AV)) : AV := .boxv 7 [.int .i64 n, .int .i64 m, .str s, .sl 1 p, .sl 8 q, .bool o, .sl 7 k] [(3, .own 1 p'), (4, .own 8 q'), (6, .own 7 k')]
abbrev a8w (n m : Int) (s : List UInt8) (p q : List (List AV)) (o : Bool) (k k' p' q' : List (List AV)) : AV := .boxv 7 [.int .i64 n, .int .i64 m, .str s, .sl 1 p, .sl 8 q, .bool o, .sl 7 k] [(6, .own 7 k'), (3, .own 1 p'), (4, .own 8 q')]
abbrev a8x (n m : Int) (s : List UInt8) (p q : List (List AV)) (o : Bool) (k q' p' k' : List (List AV)) : AV := .boxv 7 [.int .i64 n, .int .i64 m, .str s, .sl 1 p, .sl 8 q, .bool o, .sl 7 k] [(4, .own 8 q'), (3, .own 1 p'), (6, .own 7 k')]
abbrev LL := List (List AV)
abbrev B8 := List UInt8
abbrev ti0 : TI := ⟨.func, 1, 8, [AV.undef]⟩
abbrev ti1 : TI := ⟨.struct [(0, 12), (1, 12), (2, 293), (3, 324), (4, 5), (5, 5), (6, 325), (7, 326), (8, 171), (9, 327), (10, 328)], 11, 48, [AV.int .u64 0, AV.int .u64 0, AV.int .u32 0, AV.int .u8 0, AV.int .u8 0, AV.int .u8 0, AV.int .u8 0, AV.undef, AV.undef, AV.int .i32 0, AV.int .i32 0]⟩
abbrev ti2 : TI := ⟨.struct [(0, 3), (1, 3), (2, 3), (3, 9), (4, 4), (5, 4), (6, 4), (7, 66)], 8, 72, [AV.int .i64 0, AV.int .i64 0, AV.int .i64 0, AV.str [], AV.bool false, AV.bool false, AV.bool false, AV.own 2 []]⟩
abbrev ti3 : TI := ⟨.struct [(0, 3), (1, 3), (2, 9), (3, 37), (4, 162), (5, 4), (6, 163)], 7, 112, [AV.int .i64 0, AV.int .i64 0, AV.str [], AV.own 1 [], AV.own 8 [], AV.bool false, AV.own 7 []]⟩
abbrev ti4 : TI := ⟨.struct [(0, 9), (1, 165)], 8, 128, [AV.str [], AV.int .i64 0, AV.int .i64 0, AV.str [], AV.own 1 [], AV.own 8 [], AV.bool false, AV.own 7 []]⟩
abbrev ti5 : TI := ⟨.struct [(0, 9), (1, 45)], 2, 40, [AV.str [], AV.own 8 []]⟩
abbrev ti6 : TI := ⟨.struct [(0, 2), (1, 3), (2, 4), (3, 6)], 4, 24, [AV.int .i64 0, AV.int .i64 0, AV.bool false, AV.int .u8 0]⟩
abbrev ti7 : TI := ⟨.struct [(0, 17), (1, 17), (2, 17), (3, 9)], 4, 40, [AV.undef, AV.undef, AV.undef, AV.str []]⟩
abbrev ti8 : TI := ⟨.struct [(0, 3), (1, 70)], 4, 72, [AV.int .i64 0, AV.str [], AV.own 8 [], AV.own 1 []]⟩
abbrev ti9 : TI := ⟨.struct [(0, 9), (1, 3), (2, 24)], 3, 32, [AV.str [], AV.int .i64 0, AV.int .i64 0]⟩
abbrev a0i : TI := ⟨.struct [(0, 9), (1, 3), (2, 3)], 3, 32, [AV.str [], AV.int .i64 0, AV.int .i64 0]⟩
abbrev a0j : TI := ⟨.struct [(0, 9), (1, 45), (2, 37)], 3, 64, [AV.str [], AV.own 8 [], AV.own 1 []]⟩
abbrev apb : TI := ⟨.int .i64, 1, 8, [AV.int .i64 0]⟩
abbrev apc : TI := ⟨.int .u64, 1, 8, [AV.int .u64 0]⟩
abbrev apd : TI := ⟨.int .u8, 1, 1, [AV.int .u8 0]⟩
abbrev a0k : TI := ⟨.struct [(0, 37), (1, 45)], 2, 48, [AV.own 1 [], AV.own 8 []]⟩
abbrev a0l : TI := ⟨.struct [(0, 9), (1, 12)], 2, 24, [AV.str [], AV.int .u64 0]⟩
abbrev a0m : TI := ⟨.struct [(0, 5), (1, 5)], 2, 2, [AV.int .u8 0, AV.int .u8 0]⟩
abbrev a0n : TI := ⟨.struct [(0, 123), (1, 91)], 2, 32, [AV.undef, AV.own 1 []]⟩
abbrev a0o : TI := ⟨.struct [(0, 72), (1, 4)], 2, 16, [AV.undef, AV.bool false]⟩
abbrev auy : TI := ⟨.int .i32, 1, 4, [AV.int .i32 0]⟩
def TT (n : Nat) : Option TI := lz n 167 (lz n 85 (lz n 44 (lz n 22 (lz n 9 (lz n 5 (lz n 3 (lz n 2 (ez n 1 ti0) (ez n 2 apb)) (lz n 4 (ez n 3 apb) (ez n 4 ⟨.bool, 1, 1, [AV.bool false]⟩))) (lz n 7 (lz n 6 (ez n 5 apd) (ez n 6 apd)) (lz n 8 (ez n 7 ti6) (ez n 8 ti6)))) (lz n 13 (lz n 11 (lz n 10 (ez n 9 ⟨.str, 1, 16, [AV.str []]⟩) (ez n 10 ⟨.str, 1, 16, [AV.str []]⟩)) (lz n 12 (ez n 11 ⟨.str, 1, 16, [AV.str []]⟩) (ez n 12 apc))) (lz n 18 (lz n 14 (ez n 13 a0l) (ez n 14 a0l)) (lz n 19 (ez n 18 ⟨.struct [(0, 17)], 1, 8, [AV.undef]⟩) (lz n 21 (ez n 19 ⟨.struct [(0, 17)], 1, 8, [AV.undef]⟩) (ez n 21 auy)))))) (lz n 34 (lz n 28 (lz n 24 (lz n 23 (ez n 22 ti0) (ez n 23 ⟨.slice 70, 1, 24, [AV.own 3 []]⟩)) (lz n 26 (ez n 24 apb) (ez n 26 ti0))) (lz n 30 (lz n 29 (ez n 28 ti0) (ez n 29 ti0)) (lz n 31 (ez n 30 ti0) (lz n 33 (ez n 31 ti0) (ez n 33 ti0))))) (lz n 38 (lz n 36 (lz n 35 (ez n 34 ti0) (ez n 35 apc)) (lz n 37 (ez n 36 ti0) (ez n 37 ⟨.slice 9, 1, 24, [AV.own 1 []]⟩))) (lz n 41 (lz n 39 (ez n 38 ti0) (ez n 39 ⟨.slice 47, 1, 24, [AV.own 2 []]⟩)) (lz n 42 (ez n 41 ti0) (lz n 43 (ez n 42 ti0) (ez n 43 ⟨.slice 68, 1, 24, [AV.own 8 []]⟩))))))) (lz n 63 (lz n 53 (lz n 48 (lz n 46 (lz n 45 (ez n 44 ⟨.struct [(0, 43)], 1, 24, [AV.own 8 []]⟩) (ez n 45 ⟨.struct [(0, 43)], 1, 24, [AV.own 8 []]⟩)) (lz n 47 (ez n 46 ti5) (ez n 47 ti5))) (lz n 50 (lz n 49 (ez n 48 ti0) (ez n 49 ti0)) (lz n 51 (ez n 50 ⟨.slice 117, 1, 24, [AV.own 4 []]⟩) (ez n 51 ti0)))) (lz n 57 (lz n 55 (lz n 54 (ez n 53 ti0) (ez n 54 ti0)) (lz n 56 (ez n 55 ti0) (ez n 56 ti0))) (lz n 60 (lz n 59 (ez n 57 ⟨.slice 62, 1, 24, [AV.own 2 []]⟩) (ez n 59 ti0)) (lz n 61 (ez n 60 ti0) (lz n 62 (ez n 61 a0k) (ez n 62 a0k)))))) (lz n 73 (lz n 67 (lz n 65 (lz n 64 (ez n 63 ti0) (ez n 64 ti0)) (lz n 66 (ez n 65 ti0) (ez n 66 ⟨.slice 110, 1, 24, [AV.own 2 []]⟩))) (lz n 69 (lz n 68 (ez n 67 ti2) (ez n 68 ti2)) (lz n 70 (ez n 69 a0j) (lz n 71 (ez n 70 a0j) (ez n 71 ti0))))) (lz n 78 (lz n 75 (lz n 74 (ez n 73 ti0) (ez n 74 ti0)) (lz n 77 (ez n 75 ti0) (ez n 77 ti0))) (lz n 80 (lz n 79 (ez n 78 ti0) (ez n 79 ti0)) (lz n 81 (ez n 80 a0i) (lz n 83 (ez n 81 a0i) (ez n 83 ti0)))))))) (lz n 125 (lz n 105 (lz n 94 (lz n 90 (lz n 88 (lz n 87 (ez n 85 ti0) (ez n 87 ti0)) (lz n 89 (ez n 88 ti0) (ez n 89 ti0))) (lz n 92 (lz n 91 (ez n 90 ti0) (ez n 91 ⟨.slice 5, 1, 24, [AV.own 1 []]⟩)) (lz n 93 (ez n 92 ti0) (ez n 93 ti0)))) (lz n 99 (lz n 97 (lz n 96 (ez n 94 ti0) (ez n 96 ti0)) (lz n 98 (ez n 97 ti0) (ez n 98 ti0))) (lz n 102 (lz n 101 (ez n 99 ti0) (ez n 101 ti0)) (lz n 103 (ez n 102 ⟨.slice 155, 1, 24, [AV.own 2 []]⟩) (lz n 104 (ez n 103 ti0) (ez n 104 ti0)))))) (lz n 115 (lz n 109 (lz n 107 (lz n 106 (ez n 105 ti0) (ez n 106 ti0)) (lz n 108 (ez n 107 ti0) (ez n 108 ti0))) (lz n 112 (lz n 110 (ez n 109 ti5) (ez n 110 ti5)) (lz n 113 (ez n 112 ti0) (lz n 114 (ez n 113 ti0) (ez n 114 ti0))))) (lz n 119 (lz n 117 (lz n 116 (ez n 115 ti0) (ez n 116 ti8)) (lz n 118 (ez n 117 ti8) (ez n 118 ti0))) (lz n 121 (lz n 120 (ez n 119 ti0) (ez n 120 ti0)) (lz n 122 (ez n 121 ti0) (lz n 124 (ez n 122 ti0) (ez n 124 a0n))))))) (lz n 148 (lz n 137 (lz n 132 (lz n 130 (lz n 129 (ez n 125 a0n) (ez n 129 ti0)) (lz n 131 (ez n 130 ti0) (ez n 131 ti0))) (lz n 134 (lz n 133 (ez n 132 ti0) (ez n 133 ti0)) (lz n 135 (ez n 134 ti9) (ez n 135 ti9)))) (lz n 142 (lz n 140 (lz n 138 (ez n 137 ti0) (ez n 138 ti0)) (lz n 141 (ez n 140 a0o) (ez n 141 a0o))) (lz n 144 (lz n 143 (ez n 142 apc) (ez n 143 ti0)) (lz n 145 (ez n 144 ti0) (lz n 147 (ez n 145 ti0) (ez n 147 ti0)))))) (lz n 157 (lz n 152 (lz n 150 (lz n 149 (ez n 148 ti0) (ez n 149 ⟨.array 10 5, 10, 10, [AV.int .u8 0, AV.int .u8 0, AV.int .u8 0, AV.int .u8 0, AV.int .u8 0, AV.int .u8 0, AV.int .u8 0, AV.int .u8 0, AV.int .u8 0, AV.int .u8 0]⟩)) (lz n 151 (ez n 150 ti0) (ez n 151 ti0))) (lz n 154 (lz n 153 (ez n 152 ti0) (ez n 153 ti0)) (lz n 155 (ez n 154 ⟨.struct [(0, 9), (1, 9)], 2, 32, [AV.str [], AV.str []]⟩) (lz n 156 (ez n 155 ⟨.struct [(0, 9), (1, 9)], 2, 32, [AV.str [], AV.str []]⟩) (ez n 156 ti0))))) (lz n 161 (lz n 159 (lz n 158 (ez n 157 ti0) (ez n 158 ti0)) (lz n 160 (ez n 159 ti0) (ez n 160 ti0))) (lz n 163 (lz n 162 (ez n 161 ti0) (ez n 162 ⟨.slice 206, 1, 24, [AV.own 8 []]⟩)) (lz n 164 (ez n 163 ⟨.slice 165, 1, 24, [AV.own 7 []]⟩) (lz n 165 (ez n 164 ti3) (ez n 165 ti3))))))))) (lz n 250 (lz n 209 (lz n 189 (lz n 179 (lz n 173 (lz n 169 (lz n 168 (ez n 167 ti0) (ez n 168 ti0)) (lz n 170 (ez n 169 ti0) (ez n 170 ti0))) (lz n 176 (lz n 174 (ez n 173 ti0) (ez n 174 ti0)) (lz n 178 (ez n 176 ti0) (ez n 178 ti0)))) (lz n 183 (lz n 181 (lz n 180 (ez n 179 ti0) (ez n 180 ti0)) (lz n 182 (ez n 181 ti0) (ez n 182 ti0))) (lz n 186 (lz n 185 (ez n 183 ti0) (ez n 185 ti0)) (lz n 187 (ez n 186 ti0) (lz n 188 (ez n 187 ti0) (ez n 188 ti0)))))) (lz n 198 (lz n 193 (lz n 191 (lz n 190 (ez n 189 ⟨.slice 91, 1, 24, [AV.own 1 []]⟩) (ez n 190 ti0)) (lz n 192 (ez n 191 ti0) (ez n 192 ti0))) (lz n 195 (lz n 194 (ez n 193 ti0) (ez n 194 ti0)) (lz n 196 (ez n 195 ti0) (lz n 197 (ez n 196 ti0) (ez n 197 ti0))))) (lz n 204 (lz n 201 (lz n 199 (ez n 198 ti0) (ez n 199 ti0)) (lz n 203 (ez n 201 ti0) (ez n 203 ti0))) (lz n 206 (lz n 205 (ez n 204 ti0) (ez n 205 ti4)) (lz n 207 (ez n 206 ti4) (lz n 208 (ez n 207 ti0) (ez n 208 ti0))))))) (lz n 230 (lz n 220 (lz n 215 (lz n 212 (lz n 210 (ez n 209 ti0) (ez n 210 ti0)) (lz n 213 (ez n 212 ⟨.struct [(0, 211)], 1, 8, [AV.undef]⟩) (ez n 213 ⟨.struct [(0, 211)], 1, 8, [AV.undef]⟩))) (lz n 217 (lz n 216 (ez n 215 ti0) (ez n 216 ti0)) (lz n 218 (ez n 217 ti0) (ez n 218 ti0)))) (lz n 225 (lz n 223 (lz n 222 (ez n 220 ti0) (ez n 222 ti0)) (lz n 224 (ez n 223 ti0) (ez n 224 ti0))) (lz n 227 (lz n 226 (ez n 225 ti0) (ez n 226 ti0)) (lz n 228 (ez n 227 ti0) (lz n 229 (ez n 228 ti0) (ez n 229 ti0)))))) (lz n 240 (lz n 234 (lz n 232 (lz n 231 (ez n 230 ti0) (ez n 231 ⟨.array 9 9, 9, 144, [AV.str [], AV.str [], AV.str [], AV.str [], AV.str [], AV.str [], AV.str [], AV.str [], AV.str []]⟩)) (lz n 233 (ez n 232 ti0) (ez n 233 ti0))) (lz n 236 (lz n 235 (ez n 234 ti0) (ez n 235 ⟨.array 6 9, 6, 96, [AV.str [], AV.str [], AV.str [], AV.str [], AV.str [], AV.str []]⟩)) (lz n 238 (ez n 236 ti0) (lz n 239 (ez n 238 ti0) (ez n 239 ti0))))) (lz n 245 (lz n 242 (lz n 241 (ez n 240 ti0) (ez n 241 ti0)) (lz n 244 (ez n 242 ti0) (ez n 244 ti0))) (lz n 247 (lz n 246 (ez n 245 ti0) (ez n 246 ti0)) (lz n 248 (ez n 247 ti0) (lz n 249 (ez n 248 ti0) (ez n 249 ti0)))))))) (lz n 288 (lz n 269 (lz n 260 (lz n 256 (lz n 253 (lz n 251 (ez n 250 ti0) (ez n 251 ti0)) (lz n 255 (ez n 253 ti0) (ez n 255 ti0))) (lz n 258 (lz n 257 (ez n 256 ti0) (ez n 257 ti0)) (lz n 259 (ez n 258 ti0) (ez n 259 ti0)))) (lz n 264 (lz n 262 (lz n 261 (ez n 260 ti0) (ez n 261 ti0)) (lz n 263 (ez n 262 ⟨.array 20 5, 20, 20, [AV.int .u8 0, AV.int .u8 0, AV.int .u8 0, AV.int .u8 0, AV.int .u8 0, AV.int .u8 0, AV.int .u8 0, AV.int .u8 0, AV.int .u8 0, AV.int .u8 0, AV.int .u8 0, AV.int .u8 0, AV.int .u8 0, AV.int .u8 0, AV.int .u8 0, AV.int .u8 0, AV.int .u8 0, AV.int .u8 0, AV.int .u8 0, AV.int .u8 0]⟩) (ez n 263 ti0))) (lz n 266 (lz n 265 (ez n 264 ⟨.array 16 9, 16, 256, [AV.str [], AV.str [], AV.str [], AV.str [], AV.str [], AV.str [], AV.str [], AV.str [], AV.str [], AV.str [], AV.str [], AV.str [], AV.str [], AV.str [], AV.str [], AV.str []]⟩) (ez n 265 ti0)) (lz n 267 (ez n 266 ti0) (lz n 268 (ez n 267 ti0) (ez n 268 ti0)))))) (lz n 278 (lz n 273 (lz n 271 (lz n 270 (ez n 269 ti0) (ez n 270 ti0)) (lz n 272 (ez n 271 ti0) (ez n 272 ti0))) (lz n 275 (lz n 274 (ez n 273 ti0) (ez n 274 ti0)) (lz n 276 (ez n 275 ti0) (lz n 277 (ez n 276 ⟨.slice 3, 1, 24, [AV.own 1 []]⟩) (ez n 277 ti0))))) (lz n 282 (lz n 280 (lz n 279 (ez n 278 ti0) (ez n 279 ti0)) (lz n 281 (ez n 280 ti0) (ez n 281 ti0))) (lz n 284 (lz n 283 (ez n 282 ti0) (ez n 283 ⟨.array 16 3, 16, 128, [AV.int .i64 0, AV.int .i64 0, AV.int .i64 0, AV.int .i64 0, AV.int .i64 0, AV.int .i64 0, AV.int .i64 0, AV.int .i64 0, AV.int .i64 0, AV.int .i64 0, AV.int .i64 0, AV.int .i64 0, AV.int .i64 0, AV.int .i64 0, AV.int .i64 0, AV.int .i64 0]⟩)) (lz n 285 (ez n 284 ti0) (lz n 286 (ez n 285 ti0) (ez n 286 apb))))))) (lz n 307 (lz n 296 (lz n 292 (lz n 290 (lz n 289 (ez n 288 ti0) (ez n 289 ti0)) (lz n 291 (ez n 290 ti0) (ez n 291 ti0))) (lz n 294 (lz n 293 (ez n 292 ti0) (ez n 293 ⟨.int .u32, 1, 4, [AV.int .u32 0]⟩)) (lz n 295 (ez n 294 ti0) (ez n 295 ti0)))) (lz n 302 (lz n 299 (lz n 298 (ez n 296 ti0) (ez n 298 a0m)) (lz n 300 (ez n 299 a0m) (ez n 300 ⟨.array 16 299, 32, 32, [AV.int .u8 0, AV.int .u8 0, AV.int .u8 0, AV.int .u8 0, AV.int .u8 0, AV.int .u8 0, AV.int .u8 0, AV.int .u8 0, AV.int .u8 0, AV.int .u8 0, AV.int .u8 0, AV.int .u8 0, AV.int .u8 0, AV.int .u8 0, AV.int .u8 0, AV.int .u8 0, AV.int .u8 0, AV.int .u8 0, AV.int .u8 0, AV.int .u8 0, AV.int .u8 0, AV.int .u8 0, AV.int .u8 0, AV.int .u8 0, AV.int .u8 0, AV.int .u8 0, AV.int .u8 0, AV.int .u8 0, AV.int .u8 0, AV.int .u8 0, AV.int .u8 0, AV.int .u8 0]⟩))) (lz n 304 (lz n 303 (ez n 302 ti0) (ez n 303 ti0)) (lz n 305 (ez n 304 ti0) (lz n 306 (ez n 305 ti0) (ez n 306 ti0)))))) (lz n 319 (lz n 312 (lz n 309 (lz n 308 (ez n 307 ti0) (ez n 308 apc)) (lz n 310 (ez n 309 ti0) (ez n 310 ti0))) (lz n 314 (lz n 313 (ez n 312 ti0) (ez n 313 ti0)) (lz n 317 (ez n 314 ti0) (lz n 318 (ez n 317 ti0) (ez n 318 ti0))))) (lz n 326 (lz n 324 (lz n 320 (ez n 319 ti7) (ez n 320 ti7)) (lz n 325 (ez n 324 apd) (ez n 325 apd))) (lz n 328 (lz n 327 (ez n 326 ti0) (ez n 327 auy)) (lz n 329 (ez n 328 auy) (lz n 330 (ez n 329 ti1) (ez n 330 ti1)))))))))
def UU (n : Nat) : Option (List Nat) := lz n 136 (lz n 76 (lz n 32 (lz n 25 (ez n 0 []) (lz n 27 (ez n 25 [23, 24]) (ez n 27 [23, 3]))) (lz n 52 (lz n 40 (ez n 32 [9, 24]) (ez n 40 [39, 24])) (lz n 58 (ez n 52 [9, 3]) (ez n 58 [57, 3])))) (lz n 95 (lz n 84 (lz n 82 (ez n 76 [45, 24]) (ez n 82 [81, 35])) (lz n 86 (ez n 84 [81, 9]) (ez n 86 [45, 3]))) (lz n 111 (lz n 100 (ez n 95 [68, 3]) (ez n 100 [37, 37])) (lz n 128 (ez n 111 [37, 4, 4]) (ez n 128 [3, 127]))))) (lz n 221 (lz n 175 (lz n 166 (lz n 146 (ez n 136 [35, 3]) (ez n 146 [81, 45])) (lz n 172 (ez n 166 [165, 24]) (ez n 172 [165, 3]))) (lz n 202 (lz n 184 (ez n 175 [68, 24]) (ez n 184 [81, 3])) (lz n 214 (ez n 202 [165, 4]) (ez n 214 [3, 4])))) (lz n 254 (lz n 243 (lz n 237 (ez n 221 [9, 37]) (ez n 237 [9, 4])) (lz n 252 (ez n 243 [37, 4]) (ez n 252 [68, 4]))) (lz n 301 (lz n 287 (ez n 254 [21, 3]) (ez n 287 [3, 286])) (lz n 316 (ez n 301 [293, 293]) (ez n 316 [3, 3])))))
def RO (n : Nat) : List Bool := []
def τ : Tab := ⟨fun t => aa (Nat.blt t 331) (TT t) none, RO, (fun n => ez n 0 xl), UU⟩
def a6p (n : Nat) : Option (List Nat) := lz n 21 (ez n 14 [7, 10, 12, 14, 15]) (lz n 1000008 (ez n 21 [10, 12, 16, 17]) (ez n 1000008 [0, 1, 7, 9]))
def a6q (n : Nat) : Option (List Nat) := ez n 8 [5, 7, 9]
def a4g (n : Nat) : Option (List Nat) := lz n 16 (ez n 4 [0, 4, 5, 6, 7]) (ez n 16 [0, 4, 5, 6, 7, 10, 13, 14])
def a4h (n : Nat) : Option (List Nat) := ez n 4 [0, 1, 5]
def a4i (n : Nat) : Option (List Nat) := lz n 9 (ez n 4 [0, 3]) (ez n 9 [0, 3, 4])
def a4j (n : Nat) : Option (List Nat) := ez n 2 [0, 3]
def a4k (n : Nat) : Option (List Nat) := lz n 7 (ez n 3 [0, 3, 4]) (ez n 7 [0, 3, 4, 5])
def a4l (n : Nat) : Option (List Nat) := ez n 3 [3, 4]
def a4m (n : Nat) : Option (List Nat) := ez n 4 [0, 3, 4, 5]
def a4n (n : Nat) : Option (List Nat) := ez n 3 [0, 3, 4]
def a4o (n : Nat) : Option (List Nat) := ez n 5 [4, 12, 13, 14]
def a4p (n : Nat) : Option (List Nat) := ez n 5 [0, 4, 5]
def a4q (n : Nat) : Option (List Nat) := ez n 3 [4, 9, 10, 11]
def a4r (n : Nat) : Option (List Nat) := ez n 3 [0, 4, 5]
def a4s (n : Nat) : Option (List Nat) := lz n 12 (ez n 8 [0, 6, 7, 8]) (ez n 12 [0, 6, 7, 8, 9, 10])
def a4t (n : Nat) : Option (List Nat) := ez n 3 [0, 4, 5]
def a4u (n : Nat) : Option (List Nat) := ez n 4 [0, 8, 9, 10]
def a4v (n : Nat) : Option (List Nat) := ez n 1000003 [1, 2, 4]
def a4w (n : Nat) : Option (List Nat) := ez n 2 [0, 3]
def a4x (n : Nat) : Option (List Nat) := ez n 2 [0, 1, 5]
def a4y (n : Nat) : Option (List Nat) := ez n 3 [0, 3, 4]
def a4z (n : Nat) : Option (List Nat) := lz n 14 (lz n 8 (ez n 3 [0, 1, 6, 7]) (ez n 8 [0, 1, 6, 7, 8, 9, 10])) (lz n 24 (ez n 14 [0, 1, 6, 7, 8, 9, 10, 11, 12, 13]) (ez n 24 [0, 6, 14, 15]))
def a5a (n : Nat) : Option (List Nat) := lz n 6 (ez n 3 [0, 3, 4]) (ez n 6 [0, 3, 4, 5])
def a5b (n : Nat) : Option (List Nat) := ez n 3 [0, 3, 4]
def a5c (n : Nat) : Option (List Nat) := lz n 1000011 (lz n 21 (ez n 3 [1, 3, 4]) (lz n 1000009 (ez n 21 [1, 3, 4, 5, 7]) (ez n 1000009 [1, 3, 4, 5, 6]))) (lz n 1000016 (lz n 1000013 (ez n 1000011 [1, 3, 4, 5, 6]) (ez n 1000013 [1, 3, 4, 5, 6])) (lz n 1000018 (ez n 1000016 [1, 3, 4, 5]) (ez n 1000018 [1, 3, 4, 5])))
def a5d (n : Nat) : Option (List Nat) := ez n 4 [0, 3]
def a5e (n : Nat) : Option (List Nat) := lz n 1000009 (ez n 10 [2, 3, 31, 32, 33]) (ez n 1000009 [2, 3])
def a5f (n : Nat) : Option (List Nat) := lz n 8 (ez n 5 [0, 2, 3, 4, 27, 28, 29]) (lz n 1000004 (ez n 8 [0, 2, 3, 4, 27, 28, 29, 34, 35, 36]) (ez n 1000004 [0, 2, 3, 4, 6]))
def a5g (n : Nat) : Option (List Nat) := ez n 2 [2, 3, 5]
def a5h (n : Nat) : Option (List Nat) := ez n 6 [1, 4, 6, 7]
def a5i (n : Nat) : Option (List Nat) := ez n 1000011 [1, 4]
def a5j (n : Nat) : Option (List Nat) := lz n 1000005 (ez n 8 [0, 1, 5, 7]) (ez n 1000005 [0, 1, 5, 6])
def a5k (n : Nat) : Option (List Nat) := ez n 2 [0, 1, 7, 8]
def a5l (n : Nat) : Option (List Nat) := lz n 17 (ez n 7 [1, 2, 4, 5]) (ez n 17 [1, 2, 4, 5, 6, 7])
def a5m (n : Nat) : Option (List Nat) := lz n 1000006 (lz n 26 (ez n 7 [1, 2, 4, 5, 6, 7, 8]) (ez n 26 [1, 2, 4, 5, 6, 7, 8, 10, 14, 15])) (lz n 1000018 (ez n 1000006 [1, 2, 4, 5, 6, 7]) (lz n 1000022 (ez n 1000018 [1, 2, 4, 5, 6, 7, 8, 10]) (ez n 1000022 [1, 2, 4, 5, 6, 7, 8, 10])))
def a5n (n : Nat) : Option (List Nat) := lz n 9 (ez n 4 [1, 3]) (lz n 12 (ez n 9 [1, 4]) (ez n 12 [1, 4, 5]))
def a5o (n : Nat) : Option (List Nat) := ez n 4 [0, 1, 5]
def a5p (n : Nat) : Option (List Nat) := lz n 8 (ez n 3 [1, 3, 4]) (ez n 8 [1, 3, 4, 5, 6])
def a5q (n : Nat) : Option (List Nat) := lz n 15 (ez n 3 [0, 16, 17, 18]) (ez n 15 [0, 16, 17, 18, 53, 54, 55])
def a5r (n : Nat) : Option (List Nat) := ez n 7 [1, 5, 6]
def a5s (n : Nat) : Option (List Nat) := ez n 3 [0, 1, 5, 6]
def a5t (n : Nat) : Option (List Nat) := ez n 2 [0, 1, 5]
def a0p (n : Nat) : Option (List Nat) := ez n 5 [2, 3, 6]
def a0q (n : Nat) : Option (List Nat) := ez n 2 [0, 5, 6, 7]
def a0r (n : Nat) : Option (List Nat) := lz n 1000029 (lz n 36 (ez n 25 [1, 3, 4]) (ez n 36 [1, 3, 5])) (lz n 1000032 (ez n 1000029 [1, 3, 4]) (lz n 1000040 (ez n 1000032 [1, 3]) (ez n 1000040 [1, 3, 5])))
def a0s (n : Nat) : Option (List Nat) := lz n 10 (ez n 4 [1, 2, 20, 21, 22]) (lz n 13 (ez n 10 [2, 48, 49, 50]) (ez n 13 [2, 7, 8, 48, 49, 50, 56, 57, 58]))
def a0t (n : Nat) : Option (List Nat) := lz n 6 (ez n 3 [3, 12, 13, 14]) (ez n 6 [3, 12, 13, 14, 19, 20, 21])
def a0u (n : Nat) : Option (List Nat) := lz n 7 (ez n 3 [1, 3, 4]) (ez n 7 [1, 3, 4, 5, 6])
def a0v (n : Nat) : Option (List Nat) := ez n 8 [1, 3]
def a0w (n : Nat) : Option (List Nat) := lz n 13 (ez n 8 [2, 3, 5]) (ez n 13 [2, 3, 6])
def a0x (n : Nat) : Option (List Nat) := lz n 11 (ez n 4 [1, 2, 3, 7]) (ez n 11 [1, 2, 3, 7, 8, 9])
def a0y (n : Nat) : Option (List Nat) := ez n 1000004 [1, 3]
def a0z (n : Nat) : Option (List Nat) := lz n 1000011 (ez n 6 [0, 1, 5, 6, 7]) (ez n 1000011 [0, 1, 5, 6, 7])
def a00 (n : Nat) : Option (List Nat) := ez n 9 [2, 4, 35, 36, 37]
def a01 (n : Nat) : Option (List Nat) := lz n 14 (ez n 5 [1, 2, 4, 5]) (lz n 1000011 (ez n 14 [1, 2, 4, 5, 6, 7, 8]) (ez n 1000011 [1, 2, 4, 5, 6, 7]))
def a02 (n : Nat) : Option (List Nat) := ez n 4 [0, 3, 4, 5]
def a03 (n : Nat) : Option (List Nat) := ez n 5 [0, 3, 4]
def a04 (n : Nat) : Option (List Nat) := ez n 1000011 [1, 7, 8, 9, 10]
def a05 (n : Nat) : Option (List Nat) := lz n 11 (ez n 5 [0, 2, 4, 13, 14, 15]) (ez n 11 [0, 2, 4, 13, 14, 15, 30, 31, 32])
def a06 (n : Nat) : Option (List Nat) := ez n 2 [0, 1, 7, 8]
def a07 (n : Nat) : Option (List Nat) := ez n 3 [0, 1, 6, 7, 8]
def a08 (n : Nat) : Option (List Nat) := ez n 8 [1, 31, 32, 33]
def a09 (n : Nat) : Option (List Nat) := ez n 8 [2, 40, 41, 42]
def a1a (n : Nat) : Option (List Nat) := ez n 3 [0, 3, 4]
def a1b (n : Nat) : Option (List Nat) := ez n 2 [0, 1, 5]
def a1c (n : Nat) : Option (List Nat) := lz n 6 (ez n 2 [2, 3, 5]) (ez n 6 [2, 3, 5, 6, 7])
def a1d (n : Nat) : Option (List Nat) := ez n 6 [0, 1, 5]
def a1e (n : Nat) : Option (List Nat) := lz n 1000018 (ez n 7 [2, 4, 21, 22, 23]) (ez n 1000018 [2, 9])
def a1f (n : Nat) : Option (List Nat) := ez n 3 [3, 7, 8, 9]
def a1g (n : Nat) : Option (List Nat) := ez n 3 [0, 3, 8, 9]
def a1h (n : Nat) : Option (List Nat) := lz n 1000009 (ez n 3 [1, 3, 7, 8, 9]) (ez n 1000009 [3])
def a1i (n : Nat) : Option (List Nat) := lz n 1000006 (ez n 1000004 [1, 2, 3]) (lz n 1000008 (ez n 1000006 [1, 2, 3]) (ez n 1000008 [1, 2, 3]))
def a1j (n : Nat) : Option (List Nat) := ez n 4 [3, 4, 5]
def a1k (n : Nat) : Option (List Nat) := ez n 2 [0, 3]
def a1l (n : Nat) : Option (List Nat) := lz n 6 (ez n 3 [3, 9, 10, 11]) (ez n 6 [3, 9, 10, 11, 16, 17, 18])
def a1m (n : Nat) : Option (List Nat) := ez n 1000011 [1, 3, 4]
def a1n (n : Nat) : Option (List Nat) := ez n 1 [0, 5]
def a1o (n : Nat) : Option (List Nat) := ez n 2 [0, 5, 6, 7]
def a1p (n : Nat) : Option (List Nat) := ez n 2 [5, 6, 7]
def a1q (n : Nat) : Option (List Nat) := ez n 2 [0, 1, 2, 13, 14]
def a1r (n : Nat) : Option (List Nat) := ez n 2 [3, 8, 9, 10]
def a1s (n : Nat) : Option (List Nat) := lz n 1000013 (ez n 1000011 [2, 3, 4, 6]) (lz n 1000015 (ez n 1000013 [2, 3, 4, 6]) (ez n 1000015 [2, 3, 4, 6]))
def a1t (n : Nat) : Option (List Nat) := lz n 1000025 (lz n 1000017 (ez n 1000005 [1, 5]) (ez n 1000017 [1])) (lz n 1000026 (ez n 1000025 [1]) (ez n 1000026 [1]))
def a1u (n : Nat) : Option (List Nat) := ez n 5 [3, 12, 13, 14]
def a1v (n : Nat) : Option (List Nat) := ez n 4 [13, 14, 15]
def a1w (n : Nat) : Option (List Nat) := ez n 3 [0, 3, 4]
def a1x (n : Nat) : Option (List Nat) := ez n 2 [0, 1, 2, 7]
def a1y (n : Nat) : Option (List Nat) := ez n 5 [1, 3, 4]
def a1z (n : Nat) : Option (List Nat) := ez n 2 [0, 1, 7, 8]
def a2a (n : Nat) : Option (List Nat) := ez n 1 [0, 5]
def a2b (n : Nat) : Option (List Nat) := lz n 1000015 (lz n 1000010 (ez n 2 [0, 1, 2, 3, 8, 9]) (ez n 1000010 [0, 1, 2, 3, 8, 9, 10])) (lz n 1000017 (ez n 1000015 [0, 1, 2, 3, 8, 9, 10, 11, 12]) (ez n 1000017 [0, 1, 2, 3, 8, 9, 10, 11]))
def a2c (n : Nat) : Option (List Nat) := ez n 1000011 [2, 3, 4, 6]
def a2d (n : Nat) : Option (List Nat) := ez n 3 [0, 1, 2, 8, 9, 10]
def a2e (n : Nat) : Option (List Nat) := lz n 11 (ez n 5 [0, 1, 5, 6, 7, 8, 9]) (ez n 11 [0, 1, 5, 6, 7, 8, 10])
def a2f (n : Nat) : Option (List Nat) := ez n 2 [0, 5, 6, 7]
def a2g (n : Nat) : Option (List Nat) := ez n 2 [0, 1, 7, 8]
def a2h (n : Nat) : Option (List Nat) := lz n 1000015 (lz n 1000010 (ez n 2 [0, 1, 2, 3, 4, 10, 11]) (ez n 1000010 [0, 1, 2, 3, 4, 10, 11, 12])) (lz n 1000017 (ez n 1000015 [0, 1, 2, 3, 4, 10, 11, 12, 13, 14]) (ez n 1000017 [0, 1, 2, 3, 4, 10, 11, 12, 13]))
def a2i (n : Nat) : Option (List Nat) := ez n 2 [0, 1, 2, 13, 14]
def a2j (n : Nat) : Option (List Nat) := ez n 2 [0, 1, 7, 8]
def a2k (n : Nat) : Option (List Nat) := lz n 8 (ez n 3 [0, 4, 5]) (ez n 8 [4, 6, 7, 8])
def ann (n : Nat) : Nat → Option (List Nat) := lz n 126 (lz n 61 (lz n 26 (lz n 15 (lz n 11 (lz n 7 (aa (Nat.beq n 5) (a6p) (fun _ => none)) (lz n 10 (aa (Nat.beq n 7) (a6q) (fun _ => none)) (aa (Nat.beq n 10) (a4g) (fun _ => none)))) (lz n 12 (aa (Nat.beq n 11) (a4h) (fun _ => none)) (lz n 14 (aa (Nat.beq n 12) (a4i) (fun _ => none)) (aa (Nat.beq n 14) (a4j) (fun _ => none))))) (lz n 20 (lz n 16 (aa (Nat.beq n 15) (a4k) (fun _ => none)) (lz n 18 (aa (Nat.beq n 16) (a4l) (fun _ => none)) (aa (Nat.beq n 18) (a4m) (fun _ => none)))) (lz n 24 (aa (Nat.beq n 20) (a4n) (fun _ => none)) (lz n 25 (aa (Nat.beq n 24) (a4o) (fun _ => none)) (aa (Nat.beq n 25) (a4p) (fun _ => none)))))) (lz n 53 (lz n 32 (lz n 27 (aa (Nat.beq n 26) (a4q) (fun _ => none)) (lz n 28 (aa (Nat.beq n 27) (a4r) (fun _ => none)) (aa (Nat.beq n 28) (a4s) (fun _ => none)))) (lz n 33 (aa (Nat.beq n 32) (a4t) (fun _ => none)) (lz n 43 (aa (Nat.beq n 33) (a4u) (fun _ => none)) (aa (Nat.beq n 43) (a4v) (fun _ => none))))) (lz n 56 (lz n 54 (aa (Nat.beq n 53) (a4w) (fun _ => none)) (lz n 55 (aa (Nat.beq n 54) (a4x) (fun _ => none)) (aa (Nat.beq n 55) (a4y) (fun _ => none)))) (lz n 58 (lz n 57 (aa (Nat.beq n 56) (a4z) (fun _ => none)) (aa (Nat.beq n 57) (a5a) (fun _ => none))) (lz n 60 (aa (Nat.beq n 58) (a5b) (fun _ => none)) (aa (Nat.beq n 60) (a5c) (fun _ => none))))))) (lz n 92 (lz n 73 (lz n 67 (lz n 64 (aa (Nat.beq n 61) (a5d) (fun _ => none)) (lz n 65 (aa (Nat.beq n 64) (a5e) (fun _ => none)) (aa (Nat.beq n 65) (a5f) (fun _ => none)))) (lz n 70 (aa (Nat.beq n 67) (a5g) (fun _ => none)) (lz n 71 (aa (Nat.beq n 70) (a5h) (fun _ => none)) (aa (Nat.beq n 71) (a5i) (fun _ => none))))) (lz n 88 (lz n 79 (aa (Nat.beq n 73) (a5j) (fun _ => none)) (lz n 86 (aa (Nat.beq n 79) (a5k) (fun _ => none)) (aa (Nat.beq n 86) (a5l) (fun _ => none)))) (lz n 89 (aa (Nat.beq n 88) (a5m) (fun _ => none)) (lz n 90 (aa (Nat.beq n 89) (a5n) (fun _ => none)) (aa (Nat.beq n 90) (a5o) (fun _ => none)))))) (lz n 108 (lz n 96 (lz n 94 (aa (Nat.beq n 92) (a5p) (fun _ => none)) (lz n 95 (aa (Nat.beq n 94) (a5q) (fun _ => none)) (aa (Nat.beq n 95) (a5r) (fun _ => none)))) (lz n 97 (aa (Nat.beq n 96) (a5s) (fun _ => none)) (lz n 103 (aa (Nat.beq n 97) (a5t) (fun _ => none)) (aa (Nat.beq n 103) (a0p) (fun _ => none))))) (lz n 121 (lz n 111 (aa (Nat.beq n 108) (a0q) (fun _ => none)) (lz n 120 (aa (Nat.beq n 111) (a0r) (fun _ => none)) (aa (Nat.beq n 120) (a0s) (fun _ => none)))) (lz n 124 (lz n 123 (aa (Nat.beq n 121) (a0t) (fun _ => none)) (aa (Nat.beq n 123) (a0u) (fun _ => none))) (lz n 125 (aa (Nat.beq n 124) (a0v) (fun _ => none)) (aa (Nat.beq n 125) (a0w) (fun _ => none)))))))) (lz n 198 (lz n 170 (lz n 149 (lz n 139 (lz n 128 (aa (Nat.beq n 126) (a0x) (fun _ => none)) (lz n 131 (aa (Nat.beq n 128) (a0y) (fun _ => none)) (aa (Nat.beq n 131) (a0z) (fun _ => none)))) (lz n 144 (aa (Nat.beq n 139) (a00) (fun _ => none)) (lz n 147 (aa (Nat.beq n 144) (a01) (fun _ => none)) (aa (Nat.beq n 147) (a02) (fun _ => none))))) (lz n 156 (lz n 151 (aa (Nat.beq n 149) (a03) (fun _ => none)) (lz n 153 (aa (Nat.beq n 151) (a04) (fun _ => none)) (aa (Nat.beq n 153) (a05) (fun _ => none)))) (lz n 158 (aa (Nat.beq n 156) (a06) (fun _ => none)) (lz n 168 (aa (Nat.beq n 158) (a07) (fun _ => none)) (aa (Nat.beq n 168) (a08) (fun _ => none)))))) (lz n 182 (lz n 175 (lz n 172 (aa (Nat.beq n 170) (a09) (fun _ => none)) (lz n 174 (aa (Nat.beq n 172) (a1a) (fun _ => none)) (aa (Nat.beq n 174) (a1b) (fun _ => none)))) (lz n 177 (aa (Nat.beq n 175) (a1c) (fun _ => none)) (lz n 180 (aa (Nat.beq n 177) (a1d) (fun _ => none)) (aa (Nat.beq n 180) (a1e) (fun _ => none))))) (lz n 190 (lz n 184 (aa (Nat.beq n 182) (a1f) (fun _ => none)) (lz n 187 (aa (Nat.beq n 184) (a1g) (fun _ => none)) (aa (Nat.beq n 187) (a1h) (fun _ => none)))) (lz n 193 (lz n 192 (aa (Nat.beq n 190) (a1i) (fun _ => none)) (aa (Nat.beq n 192) (a1j) (fun _ => none))) (lz n 194 (aa (Nat.beq n 193) (a1k) (fun _ => none)) (aa (Nat.beq n 194) (a1l) (fun _ => none))))))) (lz n 243 (lz n 221 (lz n 211 (lz n 207 (aa (Nat.beq n 198) (a1m) (fun _ => none)) (lz n 210 (aa (Nat.beq n 207) (a1n) (fun _ => none)) (aa (Nat.beq n 210) (a1o) (fun _ => none)))) (lz n 215 (aa (Nat.beq n 211) (a1p) (fun _ => none)) (lz n 220 (aa (Nat.beq n 215) (a1q) (fun _ => none)) (aa (Nat.beq n 220) (a1r) (fun _ => none))))) (lz n 234 (lz n 230 (aa (Nat.beq n 221) (a1s) (fun _ => none)) (lz n 232 (aa (Nat.beq n 230) (a1t) (fun _ => none)) (aa (Nat.beq n 232) (a1u) (fun _ => none)))) (lz n 241 (aa (Nat.beq n 234) (a1v) (fun _ => none)) (lz n 242 (aa (Nat.beq n 241) (a1w) (fun _ => none)) (aa (Nat.beq n 242) (a1x) (fun _ => none)))))) (lz n 269 (lz n 253 (lz n 247 (aa (Nat.beq n 243) (a1y) (fun _ => none)) (lz n 251 (aa (Nat.beq n 247) (a1z) (fun _ => none)) (aa (Nat.beq n 251) (a2a) (fun _ => none)))) (lz n 258 (aa (Nat.beq n 253) (a2b) (fun _ => none)) (lz n 261 (aa (Nat.beq n 258) (a2c) (fun _ => none)) (aa (Nat.beq n 261) (a2d) (fun _ => none))))) (lz n 274 (lz n 272 (aa (Nat.beq n 269) (a2e) (fun _ => none)) (lz n 273 (aa (Nat.beq n 272) (a2f) (fun _ => none)) (aa (Nat.beq n 273) (a2g) (fun _ => none)))) (lz n 288 (lz n 287 (aa (Nat.beq n 274) (a2h) (fun _ => none)) (aa (Nat.beq n 287) (a2i) (fun _ => none))) (lz n 290 (aa (Nat.beq n 288) (a2j) (fun _ => none)) (aa (Nat.beq n 290) (a2k) (fun _ => none))))))))
def OO (n : Nat) : Option (List AV → Option AV) := aa (Nat.blt n 100) (aa (Nat.blt n 31) (aa (Nat.blt n 19) (aa (Nat.beq n 13) (some jl) none) (aa (Nat.blt n 22) (aa (Nat.beq n 19) (some jl) none) (aa (Nat.beq n 22) (some jl) none))) (aa (Nat.blt n 72) (aa (Nat.beq n 31) (some jl) none) (aa (Nat.blt n 78) (aa (Nat.beq n 72) (some jl) none) (aa (Nat.beq n 78) (some jl) none)))) (aa (Nat.blt n 183) (aa (Nat.blt n 101) (aa (Nat.beq n 100) (some jl) none) (aa (Nat.blt n 107) (aa (Nat.beq n 101) (some vt) none) (aa (Nat.beq n 107) (some jl) none))) (aa (Nat.blt n 195) (aa (Nat.blt n 186) (aa (Nat.beq n 183) (some aap) none) (aa (Nat.beq n 186) (some jl) none)) (aa (Nat.blt n 286) (aa (Nat.beq n 195) (some jl) none) (aa (Nat.beq n 286) (some apa) none))))
def S : Sys := ⟨τ, ann, OO, fun f => (Tryz.prog.funcs[f]?).bind bj⟩
def fd (f : Func) (n : Nat) : FD := ⟨f.body.getD .skip, f.results.toList, n⟩
def se (a0 a1 : AV) : Option AV := ag S 11 [a0, a1]
def dh (a0 : AV) : Option AV := ag S 12 [a0]
def fy (a0 : AV) : Option AV := ag S 16 [a0]
def ep (a0 : AV) : Option AV := ag S 18 [a0]
def eu (a0 : AV) : Option AV := ag S 20 [a0]
def pk (a0 a1 : AV) : Option AV := ag S 21 [a0, a1]
def sf (a0 a1 : AV) : Option AV := ag S 34 [a0, a1]
def aaq (a0 a1 : AV) : Option AV := ag S 46 [a0, a1]
def ux (a0 : AV) : Option AV := ag S 47 [a0]
def j7 (a0 : AV) : Option AV := ag S 53 [a0]
def er (a0 : AV) : Option AV := ag S 61 [a0]
def yn (a0 : AV) : Option AV := ag S 62 [a0]
def o5 (a0 : AV) : Option AV := ag S 63 [a0]
def da (a0 a1 : AV) : Option AV := ag S 67 [a0, a1]
def cg (a0 a1 : AV) : Option AV := ag S 79 [a0, a1]
def sg (a0 a1 : AV) : Option AV := ag S 80 [a0, a1]
def ri (a0 : AV) : Option AV := ag S 84 [a0]
def kn (a0 a1 : AV) : Option AV := ag S 90 [a0, a1]
def yo (a0 : AV) : Option AV := ag S 91 [a0]
def ca (a0 : AV) : Option AV := ag S 92 [a0]
def sj (a0 : AV) : Option AV := ag S 99 [a0]
def vu (a0 : AV) : Option AV := ag S 101 [a0]
def dk (a0 a1 : AV) : Option AV := ag S 103 [a0, a1]
def ju (a0 a1 : AV) : Option AV := ag S 104 [a0, a1]
def fz (a0 : AV) : Option AV := ag S 108 [a0]
def o6 (a0 : AV) : Option AV := ag S 113 [a0]
def ia (a0 a1 : AV) : Option AV := ag S 114 [a0, a1]
def bp (a0 a1 : AV) : Option AV := ag S 120 [a0, a1]
def cm (a0 : AV) : Option AV := ag S 121 [a0]
def fc (a0 : AV) : Option AV := ag S 123 [a0]
def bt (a0 a1 a2 : AV) : Option AV := ag S 126 [a0, a1, a2]
def p8 (a0 a1 : AV) : Option AV := ag S 137 [a0, a1]
def od (a0 a1 : AV) : Option AV := ag S 138 [a0, a1]
def ky (a0 : AV) : Option AV := ag S 152 [a0]
def o7 (a0 a1 : AV) : Option AV := ag S 154 [a0, a1]
def ud (a0 : AV) : Option AV := ag S 155 [a0]
def cx (a0 a1 : AV) : Option AV := ag S 156 [a0, a1]
def ev (a0 a1 : AV) : Option AV := ag S 168 [a0, a1]
def jh (a0 a1 : AV) : Option AV := ag S 169 [a0, a1]
def dy (a0 a1 : AV) : Option AV := ag S 170 [a0, a1]
def mr (a0 a1 : AV) : Option AV := ag S 174 [a0, a1]
def kz (a0 a1 : AV) : Option AV := ag S 179 [a0, a1]
def ct (a0 : AV) : Option AV := ag S 194 [a0]
def eg (a0 a1 : AV) : Option AV := ag S 196 [a0, a1]
def vx (a0 a1 : AV) : Option AV := ag S 197 [a0, a1]
def dr (a0 : AV) : Option AV := ag S 198 [a0]
def mu (a0 : AV) : Option AV := ag S 199 [a0]
def o8 (a0 : AV) : Option AV := ag S 208 [a0]
def xm (a0 : AV) : Option AV := ag S 209 [a0]
def gw (a0 : AV) : Option AV := ag S 210 [a0]
def gg (a0 : AV) : Option AV := ag S 211 [a0]
def fm (a0 a1 : AV) : Option AV := ag S 212 [a0, a1]
def jm (a0 a1 : AV) : Option AV := ag S 213 [a0, a1]
def jz (a0 : AV) : Option AV := ag S 214 [a0]
def dc (a0 a1 a2 : AV) : Option AV := ag S 215 [a0, a1, a2]
def ue (a0 a1 : AV) : Option AV := ag S 216 [a0, a1]
def o9 (a0 a1 : AV) : Option AV := ag S 217 [a0, a1]
def uy (a0 a1 : AV) : Option AV := ag S 218 [a0, a1]
def tj (a0 a1 : AV) : Option AV := ag S 219 [a0, a1]
def ga (a0 a1 : AV) : Option AV := ag S 220 [a0, a1]
def ch (a0 a1 : AV) : Option AV := ag S 247 [a0, a1]
def p9 (a0 : AV) : Option AV := ag S 248 [a0]
def j3 (a0 : AV) : Option AV := ag S 255 [a0]
def gh (a0 a1 : AV) : Option AV := ag S 256 [a0, a1]
def ik (a0 a1 : AV) : Option AV := ag S 257 [a0, a1]
def gm (a0 a1 : AV) : Option AV := ag S 258 [a0, a1]
def qa (a0 a1 : AV) : Option AV := ag S 259 [a0, a1]
def uf (a0 a1 : AV) : Option AV := ag S 260 [a0, a1]
def au (a0 a1 a2 : AV) : Option AV := ag S 261 [a0, a1, a2]
def vy (a0 a1 : AV) : Option AV := ag S 262 [a0, a1]
def gi (a0 a1 : AV) : Option AV := ag S 263 [a0, a1]
def ug (a0 a1 : AV) : Option AV := ag S 264 [a0, a1]
def iz (a0 a1 : AV) : Option AV := ag S 286 [a0, a1]
def cz (a0 a1 a2 : AV) : Option AV := ag S 287 [a0, a1, a2]
def cp (a0 a1 : AV) : Option AV := ag S 288 [a0, a1]
def d5 : FD := fd Tryz.f5 140
theorem h5 : (Tryz.prog.funcs[5]?).bind bj = some d5 := by rw [Tryz.func5]; rfl
def d7 : FD := fd Tryz.f7 95
theorem h7 : (Tryz.prog.funcs[7]?).bind bj = some d7 := by rw [Tryz.func7]; rfl
def d11 : FD := fd Tryz.f11 27
def se.l0 (a0 a1 a5 : AV) : Option AV := cj S 11 d11 [1, 1, 0, 1, 0] (look [(0, a0), (1, a1), (5, a5)])
theorem se.ar (l1 l2 : LL) (n3 : Int) : se.l0 (.sl 3 l1) (.sl 3 l2) (.int .i64 n3) = (ifB (decide (n3 < (l1.length : Int))) (idx l1 n3 fun c4 => idx l2 n3 fun c5 => (aaq (.agg 3 c4) (.agg 3 c5)).bind fun r6 => asB r6 fun b7 => ifB (!b7) (some (.bool false)) (se.l0 (.sl 3 l1) (.sl 3 l2) (.int .i64 (w64 (n3 + 1))))) (some (.bool true))) := (aw ..).trans (by kernel_rfl)
def d12 : FD := fd Tryz.f12 59
theorem h12 : (Tryz.prog.funcs[12]?).bind bj = some d12 := by rw [Tryz.func12]; rfl
def dh.l0 (a0 a3 : AV) : Option AV := cj S 12 d12 [1, 1, 0, 1, 0] (look [(0, a0), (3, a3)])
def dh.l1 (a0 a3 a4 : AV) : Option AV := cj S 12 d12 [1, 1, 0, 1, 0, 0, 1, 0, 0, 1, 1, 0] (look [(0, a0), (3, a3), (4, a4)])
theorem dh.ae (l1 : LL) : dh (.sl 3 l1) = (ifB (decide ((12 : Int) < (l1.length : Int))) (some (.bool false)) (dh.l0 (.sl 3 l1) (.int .i64 0))) := (af S 12 _ d12 rfl h12).trans (by kernel_rfl)
theorem dh.ar (l1 : LL) (n2 : Int) : dh.l0 (.sl 3 l1) (.int .i64 n2) = (ifB (decide (n2 < (l1.length : Int))) (idx l1 n2 fun c3 => ab c3 0 fun a4 => asS a4 fun s5 => (ifB (decide ((100 : Int) < (s5.length : Int))) (some true) (idx l1 n2 fun c7 => ab c7 2 fun a8 => asL 1 a8 fun l9 => some (decide ((20 : Int) < (l9.length : Int)))) : Option Bool).bind fun b6 => (ifB b6 (some true) (idx l1 n2 fun c11 => ab c11 1 fun a12 => (ux (.agg 1 [a12])).bind fun r13 => asB r13 fun b14 => some (!b14)) : Option Bool).bind fun b10 => ifB b10 (some (.bool false)) (dh.l1 (.sl 3 l1) (.int .i64 n2) (.int .i64 0))) (some (.bool true))) := (aw ..).trans (by kernel_rfl)
theorem dh.ib (l1 : LL) (n2 n3 : Int) : dh.l1 (.sl 3 l1) (.int .i64 n2) (.int .i64 n3) = (idx l1 n2 fun c4 => ab c4 2 fun a5 => asL 1 a5 fun l6 => ifB (decide (n3 < (l6.length : Int))) (idx l1 n2 fun c7 => ab c7 2 fun a8 => asL 1 a8 fun l9 => idx l9 n3 fun c10 => ab c10 0 fun a11 => asS a11 fun s12 => ifB (decide ((100 : Int) < (s12.length : Int))) (some (.bool false)) (dh.l1 (.sl 3 l1) (.int .i64 n2) (.int .i64 (w64 (n3 + 1))))) (dh.l0 (.sl 3 l1) (.int .i64 (w64 (n2 + 1))))) := (aw ..).trans (by kernel_rfl)
def d16 : FD := fd Tryz.f16 50
theorem h16 : (Tryz.prog.funcs[16]?).bind bj = some d16 := by rw [Tryz.func16]; rfl
def fy.l0 (a3 a4 : AV) : Option AV := cj S 16 d16 [1, 1, 0, 1, 0] (look [(3, a3), (4, a4)])
theorem fy.ae (s1 : B8) : fy (.str s1) = ((ep (.str s1)).bind fun r2 => asL 1 r2 fun l3 => fy.l0 (.sl 1 l3) (.int .i64 0)) := (af S 16 _ d16 rfl h16).trans (by kernel_rfl)
theorem fy.ar (l1 : LL) (n2 : Int) : fy.l0 (.sl 1 l1) (.int .i64 n2) = (ifB (decide (n2 < (l1.length : Int))) ((ifB (decide ((0 : Int) < n2)) (some (decide (n2 = (w64 ((l1.length : Int) - 1))))) (some false) : Option Bool).bind fun b3 => (ifB b3 (idx l1 n2 fun c5 => ab c5 0 fun a6 => asS a6 fun s7 => some (decide (s7 = [42, 42]))) (some false) : Option Bool).bind fun b4 => (ifB (!b4) (idx l1 n2 fun c9 => ab c9 0 fun a10 => asS a10 fun s11 => some (!decide (s11 = [42]))) (some false) : Option Bool).bind fun b8 => (ifB b8 (idx l1 n2 fun c13 => ab c13 0 fun a14 => asS a14 fun s15 => (er (.str s15)).bind fun r16 => asB r16 fun b17 => some (!b17)) (some false) : Option Bool).bind fun b12 => ifB b12 (some (.bool false)) (fy.l0 (.sl 1 l1) (.int .i64 (w64 (n2 + 1))))) (some (.bool (decide ((l1.length : Int) ≤ 16))))) := (aw ..).trans (by kernel_rfl)
def d17 : FD := fd Tryz.f17 64
theorem h17 : (Tryz.prog.funcs[17]?).bind bj = some d17 := by rw [Tryz.func17]; rfl
def d18 : FD := fd Tryz.f18 31
theorem h18 : (Tryz.prog.funcs[18]?).bind bj = some d18 := by rw [Tryz.func18]; rfl
def ep.l0 (a0 a3 a4 a5 : AV) : Option AV := cj S 18 d18 [1, 1, 1, 0, 1, 0] (look [(0, a0), (3, a3), (4, a4), (5, a5)])
theorem ep.ae (s1 : B8) : ep (.str s1) = (ep.l0 (.str s1) (.own 1 []) (.str []) (.int .i64 0)) := (af S 18 _ d18 rfl h18).trans (by kernel_rfl)
theorem ep.ar (s1 : B8) (l2 : LL) (s3 : B8) (n4 : Int) : ep.l0 (.str s1) (.own 1 l2) (.str s3) (.int .i64 n4) = (ifB (decide (n4 < (s1.length : Int))) (idx s1 n4 fun c5 => ifB (decide (((c5.toNat : Int) : Int) = 46)) (bh (Nat.ble (List.length l2 + List.length ([[AV.str s3]])) lim) <| ep.l0 (.str s1) (.own 1 (l2 ++ ([[.str s3]]))) (.str []) (.int .i64 (w64 (n4 + 1)))) (cut s1 n4 (w64 (n4 + 1)) fun l6 => bh (Nat.ble (List.length s3 + List.length l6) lim) <| ep.l0 (.str s1) (.own 1 l2) (.str (s3 ++ l6)) (.int .i64 (w64 (n4 + 1))))) (bh (Nat.ble (List.length l2 + List.length ([[AV.str s3]])) lim) <| some (.own 1 (l2 ++ ([[.str s3]]))))) := (aw ..).trans (by kernel_rfl)
def d20 : FD := fd Tryz.f20 22
theorem h20 : (Tryz.prog.funcs[20]?).bind bj = some d20 := by rw [Tryz.func20]; rfl
def eu.l0 (a0 a3 a4 : AV) : Option AV := cj S 20 d20 [1, 1, 0, 1, 0] (look [(0, a0), (3, a3), (4, a4)])
theorem eu.ae (l1 : LL) : eu (.sl 1 l1) = (eu.l0 (.sl 1 l1) (.str []) (.int .i64 0)) := (af S 20 _ d20 rfl h20).trans (by kernel_rfl)
theorem eu.ar (l1 : LL) (s2 : B8) (n3 : Int) : eu.l0 (.sl 1 l1) (.str s2) (.int .i64 n3) = (ifB (decide (n3 < (l1.length : Int))) (ifB (decide ((0 : Int) < n3)) (bh (Nat.ble (List.length s2 + List.length [46]) lim) <| idx l1 n3 fun c4 => ab c4 0 fun a5 => asS a5 fun s6 => bh (Nat.ble (List.length (s2 ++ [46]) + List.length s6) lim) <| eu.l0 (.sl 1 l1) (.str ((s2 ++ [46]) ++ s6)) (.int .i64 (w64 (n3 + 1)))) (idx l1 n3 fun c7 => ab c7 0 fun a8 => asS a8 fun s9 => bh (Nat.ble (List.length s2 + List.length s9) lim) <| eu.l0 (.sl 1 l1) (.str (s2 ++ s9)) (.int .i64 (w64 (n3 + 1))))) (some (.str s2))) := (aw ..).trans (by kernel_rfl)
def d21 : FD := fd Tryz.f21 9
theorem h21 : (Tryz.prog.funcs[21]?).bind bj = some d21 := by rw [Tryz.func21]; rfl
theorem pk.ae (c1 c2 : List AV) : pk (.agg 1 c1) (.agg 1 c2) = ((da (.agg 1 c1) (.agg 1 c2)).bind fun r3 => asI .i64 r3 fun n4 => some (.bool (decide (n4 = 0)))) := (af S 21 _ d21 rfl h21).trans (by kernel_rfl)
def d28 : FD := fd Tryz.f28 58
theorem h28 : (Tryz.prog.funcs[28]?).bind bj = some d28 := by rw [Tryz.func28]; rfl
def d29 : FD := fd Tryz.f29 13
theorem h29 : (Tryz.prog.funcs[29]?).bind bj = some d29 := by rw [Tryz.func29]; rfl
end Go.Proofs.YtmdimhcjogjcgaaGreatDoor.Abs
