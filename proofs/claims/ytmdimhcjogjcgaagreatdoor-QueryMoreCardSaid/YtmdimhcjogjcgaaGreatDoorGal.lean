/- What the code comes to, function by function (printed by gen.py). -/
import Derived.Test.YtmdimhcjogjcgaaGreatDoorGaj
import Derived.Test.YtmdimhcjogjcgaaGreatDoorGah
import Derived.Test.YtmdimhcjogjcgaaGreatDoorGak
set_option linter.all false
set_option maxRecDepth 100000
noncomputable section
namespace Go.Proofs.YtmdimhcjogjcgaaGreatDoor.Abs
def d187 : FD := fd Tryz.f187 33
theorem a81 : (Tryz.prog.funcs[187]?).bind bj = some d187 := by rw [Tryz.func187]; rfl
def d194 : FD := fd Tryz.f194 31
theorem a7g : (Tryz.prog.funcs[194]?).bind bj = some d194 := by rw [Tryz.func194]; rfl
def ct.l0 (a3 a9 a10 a11 : AV) : Option AV := cj S 194 d194 [1, 1, 0, 1, 0] (look [(3, a3), (9, a9), (10, a10), (11, a11)])
def ct.l1 (a3 a9 a10 a11 a16 a17 a18 : AV) : Option AV := cj S 194 d194 [1, 1, 0, 1, 0, 0, 1, 1, 0, 0, 1, 1, 0] (look [(3, a3), (9, a9), (10, a10), (11, a11), (16, a16), (17, a17), (18, a18)])
theorem ct.ae (c1 : List AV) : ct (.agg 1 c1) = (ab c1 0 fun a2 => asL 8 a2 fun l3 => ct.l0 (.int .i64 0) (.sl 8 l3) (.int .i64 (l3.length : Int)) (.int .i64 0)) := (af S 194 _ d194 rfl a7g).trans (by kernel_rfl)
theorem ct.ar (n1 : Int) (l2 : LL) (n3 n4 : Int) : ct.l0 (.int .i64 n1) (.sl 8 l2) (.int .i64 n3) (.int .i64 n4) = (ifB (decide (n4 < n3)) (idx l2 n4 fun c5 => ab c5 7 fun a6 => asL 2 a6 fun l7 => ct.l1 (.int .i64 n1) (.sl 8 l2) (.int .i64 n3) (.int .i64 n4) (.sl 2 l7) (.int .i64 (l7.length : Int)) (.int .i64 0)) (some (.int .i64 (w64 (n1 + 1))))) := (aw ..).trans (by kernel_rfl)
theorem ct.ib (n1 : Int) (l2 : LL) (n3 n4 : Int) (l5 : LL) (n6 n7 : Int) : ct.l1 (.int .i64 n1) (.sl 8 l2) (.int .i64 n3) (.int .i64 n4) (.sl 2 l5) (.int .i64 n6) (.int .i64 n7) = (ifB (decide (n7 < n6)) (idx l5 n7 fun c8 => ab c8 1 fun a9 => (ct (.agg 1 [(frz a9)])).bind fun r10 => asI .i64 r10 fun n11 => ct.l1 (.int .i64 (max (n1 : Int) n11)) (.sl 8 l2) (.int .i64 n3) (.int .i64 n4) (.sl 2 l5) (.int .i64 n6) (.int .i64 (w64 (n7 + 1)))) (ct.l0 (.int .i64 n1) (.sl 8 l2) (.int .i64 n3) (.int .i64 (w64 (n4 + 1))))) := (aw ..).trans (by kernel_rfl)
def d196 : FD := fd Tryz.f196 9
theorem a7h : (Tryz.prog.funcs[196]?).bind bj = some d196 := by rw [Tryz.func196]; rfl
theorem eg.ae (l1 : LL) (f2 : Nat) (c3 : List AV) : eg (.sl 2 l1) (.fn f2 c3) = ((ch (.sl 2 l1) (.fn f2 c3)).bind fun r4 => asI .i64 r4 fun n5 => some (.bool (decide ((0 : Int) ≤ n5)))) := (af S 196 _ d196 rfl a7h).trans (by kernel_rfl)
def d197 : FD := fd Tryz.f197 9
theorem a7i : (Tryz.prog.funcs[197]?).bind bj = some d197 := by rw [Tryz.func197]; rfl
theorem vx.ae (c1 : List AV) (f2 : Nat) (c3 : List AV) : vx (.agg 2 c1) (.eptr 1 [.fn f2 c3] 0) = (ab c1 1 fun a4 => (o7 (.agg 1 [(frz a4)]) (.fn f2 c3)).bind fun r5 => asB r5 fun b6 => some (.bool (!b6))) := (af S 197 _ d197 rfl a7i).trans (by kernel_rfl)
def d198 : FD := fd Tryz.f198 79
theorem a7j : (Tryz.prog.funcs[198]?).bind bj = some d198 := by rw [Tryz.func198]; rfl
def dr.j0 (a1 a3 a4 : AV) : Option AV := abo S 198 d198 [1, 1, 1, 1, 0, 1, 0] (look [(1, a1), (3, a3), (4, a4)])
theorem dr.ae (c1 : List AV) : dr (.agg 8 c1) = ((p9 (.agg 8 c1)).bind fun r2 => asB r2 fun b3 => (ifB (!b3) (some true) (ab c1 5 fun a5 => asB a5 fun b6 => (ifB b6 ((mu (.agg 8 c1)).bind fun r8 => asB r8 fun b9 => some b9) (some false) : Option Bool).bind fun b7 => some b7) : Option Bool).bind fun b4 => ifB b4 (some (.bool false)) (ab c1 0 fun a10 => asI .i64 a10 fun n11 => ifB (decide (n11 = 3)) (ab c1 1 fun a12 => asI .i64 a12 fun n13 => (ifB (decide (n13 = 0)) (ab c1 2 fun a15 => asI .i64 a15 fun n16 => some (decide (n16 = 0))) (some false) : Option Bool).bind fun b14 => (ifB b14 (ab c1 4 fun a18 => asB a18 fun b19 => (ifB b19 (ab c1 3 fun a21 => asS a21 fun s22 => some (decide (s22 = []))) (some false) : Option Bool).bind fun b20 => (ifB b20 (some true) (ab c1 4 fun a24 => asB a24 fun b25 => (ifB (!b25) (ab c1 3 fun a27 => asS a27 fun s28 => some (decide ((s28.length : Int) ≤ 256))) (some false) : Option Bool).bind fun b26 => some b26) : Option Bool).bind fun b23 => some b23) (some false) : Option Bool).bind fun b17 => some (.bool b17)) (ifB (decide (n11 = 2)) (dr.j0 (.boxv 8 c1 []) (.int .i64 9007199254740992) (.int .i64 (-9007199254740992))) (ifB (decide (n11 = 1)) (dr.j0 (.boxv 8 c1 []) (.int .i64 1) (.int .i64 0)) (some (.bool false)))))) := (af S 198 _ d198 rfl a7j).trans (by kernel_rfl)
theorem dr.aar (c1 : List AV) (n2 n3 : Int) : dr.j0 (.boxv 8 c1 []) (.int .i64 n2) (.int .i64 n3) = (ab c1 1 fun a4 => asI .i64 a4 fun n5 => (ifB (decide (n3 ≤ n5)) (ab c1 1 fun a7 => asI .i64 a7 fun n8 => ab c1 2 fun a9 => asI .i64 a9 fun n10 => some (decide (n8 ≤ n10))) (some false) : Option Bool).bind fun b6 => (ifB b6 (ab c1 2 fun a12 => asI .i64 a12 fun n13 => some (decide (n13 ≤ n2))) (some false) : Option Bool).bind fun b11 => (ifB b11 (ab c1 3 fun a15 => asS a15 fun s16 => some (decide (s16 = []))) (some false) : Option Bool).bind fun b14 => (ifB b14 (ab c1 4 fun a18 => asB a18 fun b19 => some (!b19)) (some false) : Option Bool).bind fun b17 => some (.bool b17)) := (qx ..).trans (by kernel_rfl)
def d199 : FD := fd Tryz.f199 14
theorem a7k : (Tryz.prog.funcs[199]?).bind bj = some d199 := by rw [Tryz.func199]; rfl
theorem mu.ae (c1 : List AV) : mu (.agg 8 c1) = (ab c1 0 fun a2 => asI .i64 a2 fun n3 => ifB (decide (n3 = 3)) (ab c1 4 fun a4 => asB a4 fun b5 => some (.bool (!b5))) (ab c1 1 fun a6 => asI .i64 a6 fun n7 => ab c1 2 fun a8 => asI .i64 a8 fun n9 => some (.bool (decide (n7 = n9))))) := (af S 199 _ d199 rfl a7k).trans (by kernel_rfl)
def d208 : FD := fd Tryz.f208 7
theorem a7l : (Tryz.prog.funcs[208]?).bind bj = some d208 := by rw [Tryz.func208]; rfl
theorem o8.ae (c1 : List AV) : o8 (.agg 8 c1) = ((jh (.agg 8 c1) (.agg 8 [.int .i64 5, .int .i64 0, .int .i64 0, .str [], .bool false, .bool false, .bool false, .sl 2 []])).bind fun r2 => asI .i64 r2 fun n3 => some (.bool (decide (n3 = 0)))) := (af S 208 _ d208 rfl a7l).trans (by kernel_rfl)
def d209 : FD := fd Tryz.f209 26
theorem a7m : (Tryz.prog.funcs[209]?).bind bj = some d209 := by rw [Tryz.func209]; rfl
theorem xm.ae (c1 : List AV) : xm (.agg 8 c1) = (ab c1 1 fun a2 => asI .i64 a2 fun n3 => (ifB (decide (n3 = 0)) (ab c1 2 fun a5 => asI .i64 a5 fun n6 => some (decide (n6 = 0))) (some false) : Option Bool).bind fun b4 => (ifB b4 (ab c1 3 fun a8 => asS a8 fun s9 => some (decide (s9 = []))) (some false) : Option Bool).bind fun b7 => (ifB b7 (ab c1 4 fun a11 => asB a11 fun b12 => some (!b12)) (some false) : Option Bool).bind fun b10 => (ifB b10 (ab c1 5 fun a14 => asB a14 fun b15 => some (!b15)) (some false) : Option Bool).bind fun b13 => some (.bool b13)) := (af S 209 _ d209 rfl a7m).trans (by kernel_rfl)
def d210 : FD := fd Tryz.f210 32
theorem a7n : (Tryz.prog.funcs[210]?).bind bj = some d210 := by rw [Tryz.func210]; rfl
def gw.l0 (a0 a5 a6 a7 : AV) : Option AV := cj S 210 d210 [1, 0, 1, 0] (look [(0, a0), (5, a5), (6, a6), (7, a7)])
theorem gw.ae (l1 : LL) : gw (.sl 2 l1) = (gw.l0 (.sl 2 l1) (.sl 2 l1) (.int .i64 (l1.length : Int)) (.int .i64 0)) := (af S 210 _ d210 rfl a7n).trans (by kernel_rfl)
theorem gw.ar (l1 l2 : LL) (n3 n4 : Int) : gw.l0 (.sl 2 l1) (.sl 2 l2) (.int .i64 n3) (.int .i64 n4) = (ifB (decide (n4 < n3)) (idx l2 n4 fun c5 => ab c5 0 fun a6 => asS a6 fun s7 => (vu (.str s7)).bind fun r8 => asB r8 fun b9 => (ifB (!b9) (some true) ((ifB (decide ((0 : Int) < n4)) (ab c5 0 fun a12 => asS a12 fun s13 => idx l1 (w64 (n4 - 1)) fun c14 => ab c14 0 fun a15 => asS a15 fun s16 => some (ai s13 s16 || decide (s13 = s16))) (some false) : Option Bool).bind fun b11 => some b11) : Option Bool).bind fun b10 => ifB b10 (some (.bool false)) (gw.l0 (.sl 2 l1) (.sl 2 l2) (.int .i64 n3) (.int .i64 (w64 (n4 + 1))))) (some (.bool true))) := (aw ..).trans (by kernel_rfl)
def d211 : FD := fd Tryz.f211 15
theorem a7o : (Tryz.prog.funcs[211]?).bind bj = some d211 := by rw [Tryz.func211]; rfl
def gg.l0 (a5 a6 a7 : AV) : Option AV := cj S 211 d211 [1, 0, 1, 0] (look [(5, a5), (6, a6), (7, a7)])
theorem gg.ae (l1 : LL) : gg (.sl 1 l1) = (gg.l0 (.sl 1 l1) (.int .i64 (l1.length : Int)) (.int .i64 0)) := (af S 211 _ d211 rfl a7o).trans (by kernel_rfl)
theorem gg.ar (l1 : LL) (n2 n3 : Int) : gg.l0 (.sl 1 l1) (.int .i64 n2) (.int .i64 n3) = (ifB (decide (n3 < n2)) (idx l1 n3 fun c4 => ab c4 0 fun a5 => asI .i64 a5 fun n6 => ifB (!decide (n6 = 0)) (some (.int .i64 n6)) (gg.l0 (.sl 1 l1) (.int .i64 n2) (.int .i64 (w64 (n3 + 1))))) (some (.int .i64 0))) := (aw ..).trans (by kernel_rfl)
def d212 : FD := fd Tryz.f212 20
theorem a7p : (Tryz.prog.funcs[212]?).bind bj = some d212 := by rw [Tryz.func212]; rfl
theorem fm.ae (n1 n2 : Int) : fm (.int .i64 n1) (.int .i64 n2) = ((j3 (.int .i64 n1)).bind fun r3 => asB r3 fun b4 => (j3 (.int .i64 n2)).bind fun r5 => asB r5 fun b6 => ifB b4 (ifB b6 (some (.int .i64 0)) (some (.int .i64 (-1)))) (ifB b6 (some (.int .i64 1)) (ifB (decide (n1 < n2)) (some (.int .i64 (-1))) (ifB (decide (n2 < n1)) (some (.int .i64 1)) (some (.int .i64 0)))))) := (af S 212 _ d212 rfl a7p).trans (by kernel_rfl)
def d213 : FD := fd Tryz.f213 8
theorem a7q : (Tryz.prog.funcs[213]?).bind bj = some d213 := by rw [Tryz.func213]; rfl
theorem jm.ae (s1 s2 : B8) : jm (.str s1) (.str s2) = ((gh (.str s1) (.str s2)).bind fun r3 => asI .i64 r3 fun n4 => some (.int .i64 n4)) := (af S 213 _ d213 rfl a7q).trans (by kernel_rfl)
def d214 : FD := fd Tryz.f214 4
theorem a7r : (Tryz.prog.funcs[214]?).bind bj = some d214 := by rw [Tryz.func214]; rfl
theorem jz.ae (b1 : Bool) : jz (.bool b1) = (ifB b1 (some (.int .i64 1)) (some (.int .i64 0))) := (af S 214 _ d214 rfl a7r).trans (by kernel_rfl)
def d215 : FD := fd Tryz.f215 36
theorem a7s : (Tryz.prog.funcs[215]?).bind bj = some d215 := by rw [Tryz.func215]; rfl
def dc.l0 (a0 a1 a2 a13 a14 : AV) : Option AV := cj S 215 d215 [1, 0, 1, 0] (look [(0, a0), (1, a1), (2, a2), (13, a13), (14, a14)])
theorem dc.ae (l1 l2 : LL) (f3 : Nat) (c4 : List AV) : dc (.sl 2 l1) (.sl 2 l2) (.fn f3 c4) = (dc.l0 (.sl 2 l1) (.sl 2 l2) (.fn f3 c4) (.int .i64 (min (l1.length : Int) (l2.length : Int))) (.int .i64 0)) := (af S 215 _ d215 rfl a7s).trans (by kernel_rfl)
theorem dc.ar (l1 l2 : LL) (f3 : Nat) (c4 : List AV) (n5 n6 : Int) : dc.l0 (.sl 2 l1) (.sl 2 l2) (.fn f3 c4) (.int .i64 n5) (.int .i64 n6) = (ifB (decide (n6 < n5)) (idx l1 n6 fun c7 => idx l2 n6 fun c8 => (ag S f3 ([.agg 2 c7, .agg 2 c8] ++ c4)).bind fun r9 => asI .i64 r9 fun n10 => ifB (!decide (n10 = 0)) (some (.int .i64 n10)) (dc.l0 (.sl 2 l1) (.sl 2 l2) (.fn f3 c4) (.int .i64 n5) (.int .i64 (w64 (n6 + 1))))) ((fm (.int .i64 (l1.length : Int)) (.int .i64 (l2.length : Int))).bind fun r11 => asI .i64 r11 fun n12 => some (.int .i64 n12))) := (aw ..).trans (by kernel_rfl)
def d216 : FD := fd Tryz.f216 17
theorem a7t : (Tryz.prog.funcs[216]?).bind bj = some d216 := by rw [Tryz.func216]; rfl
theorem ue.ae (c1 c2 : List AV) : ue (.agg 2 c1) (.agg 2 c2) = (ab c1 0 fun a3 => asS a3 fun s4 => ab c2 0 fun a5 => asS a5 fun s6 => (jm (.str s4) (.str s6)).bind fun r7 => asI .i64 r7 fun n8 => ab c1 1 fun a9 => ab c2 1 fun a10 => (ik (.agg 1 [(frz a9)]) (.agg 1 [(frz a10)])).bind fun r11 => asI .i64 r11 fun n12 => (gg (.sl 1 ([[.int .i64 n8], [.int .i64 n12]]))).bind fun r13 => asI .i64 r13 fun n14 => some (.int .i64 n14)) := (af S 216 _ d216 rfl a7t).trans (by kernel_rfl)
def d217 : FD := fd Tryz.f217 19
theorem a7u : (Tryz.prog.funcs[217]?).bind bj = some d217 := by rw [Tryz.func217]; rfl
theorem o9.ae (c1 c2 : List AV) : o9 (.agg 8 c1) (.agg 8 c2) = ((gm (.agg 8 c1) (.agg 8 c2)).bind fun r3 => lg r3 fun a4 a5 => asC 8 a4 fun c6 => asB a5 fun b7 => (ifB b7 ((qa (.agg 8 c6) (.agg 8 c1)).bind fun r9 => asB r9 fun b10 => some b10) (some false) : Option Bool).bind fun b8 => some (.bool b8)) := (af S 217 _ d217 rfl a7u).trans (by kernel_rfl)
def d218 : FD := fd Tryz.f218 14
theorem a7v : (Tryz.prog.funcs[218]?).bind bj = some d218 := by rw [Tryz.func218]; rfl
theorem uy.ae (c1 c2 : List AV) : uy (.agg 8 c1) (.agg 8 c2) = (ab c1 6 fun a3 => asB a3 fun b4 => (ifB (!b4) (ab c2 7 fun a6 => asL 2 a6 fun l7 => (eg (.sl 2 l7) (.fn 260 [.eptr 8 c1 0])).bind fun r8 => asB r8 fun b9 => some b9) (some false) : Option Bool).bind fun b5 => some (.bool b5)) := (af S 218 _ d218 rfl a7v).trans (by kernel_rfl)
def d219 : FD := fd Tryz.f219 16
theorem a7w : (Tryz.prog.funcs[219]?).bind bj = some d219 := by rw [Tryz.func219]; rfl
theorem tj.ae (l1 : LL) (s2 : B8) : tj (.sl 2 l1) (.str s2) = ((au (.sl 2 l1) (.str s2) (.fn 262 [])).bind fun r3 => lg r3 fun a4 a5 => asI .i64 a4 fun n6 => asB a5 fun b7 => ifB (!b7) (some (.int .i64 (-1))) (some (.int .i64 n6))) := (af S 219 _ d219 rfl a7w).trans (by kernel_rfl)
def d220 : FD := fd Tryz.f220 20
theorem a7x : (Tryz.prog.funcs[220]?).bind bj = some d220 := by rw [Tryz.func220]; rfl
def ga.l0 (a3 a8 a9 a10 : AV) : Option AV := cj S 220 d220 [1, 0, 1, 0] (look [(3, a3), (8, a8), (9, a9), (10, a10)])
theorem ga.ae (c1 c2 : List AV) : ga (.agg 1 c1) (.agg 1 c2) = (ab c1 0 fun a3 => asL 8 a3 fun l4 => ga.l0 (.boxv 1 c2 []) (.sl 8 l4) (.int .i64 (l4.length : Int)) (.int .i64 0)) := (af S 220 _ d220 rfl a7x).trans (by kernel_rfl)
theorem ga.ar (c1 : List AV) (l2 : LL) (n3 n4 : Int) : ga.l0 (.boxv 1 c1 []) (.sl 8 l2) (.int .i64 n3) (.int .i64 n4) = (ifB (decide (n4 < n3)) (idx l2 n4 fun c5 => ab c1 0 fun a6 => asL 8 a6 fun l7 => (gi (.sl 8 l7) (.fn 264 [.eptr 8 c5 0])).bind fun r8 => asB r8 fun b9 => ifB (!b9) (some (.bool false)) (ga.l0 (.boxv 1 c1 []) (.sl 8 l2) (.int .i64 n3) (.int .i64 (w64 (n4 + 1))))) (some (.bool true))) := (aw ..).trans (by kernel_rfl)
def d236 : FD := fd Tryz.f236 15
theorem a82 : (Tryz.prog.funcs[236]?).bind bj = some d236 := by rw [Tryz.func236]; rfl
def d247 : FD := fd Tryz.f247 19
theorem a7y : (Tryz.prog.funcs[247]?).bind bj = some d247 := by rw [Tryz.func247]; rfl
def ch.l0 (a0 a1 a7 a8 : AV) : Option AV := cj S 247 d247 [1, 0, 1, 0] (look [(0, a0), (1, a1), (7, a7), (8, a8)])
theorem ch.ae (l1 : LL) (f2 : Nat) (c3 : List AV) : ch (.sl 2 l1) (.fn f2 c3) = (ch.l0 (.sl 2 l1) (.fn f2 c3) (.int .i64 (l1.length : Int)) (.int .i64 0)) := (af S 247 _ d247 rfl a7y).trans (by kernel_rfl)
theorem ch.ar (l1 : LL) (f2 : Nat) (c3 : List AV) (n4 n5 : Int) : ch.l0 (.sl 2 l1) (.fn f2 c3) (.int .i64 n4) (.int .i64 n5) = (ifB (decide (n5 < n4)) (idx l1 n5 fun c6 => (ag S f2 ([.agg 2 c6] ++ c3)).bind fun r7 => asB r7 fun b8 => ifB b8 (some (.int .i64 n5)) (ch.l0 (.sl 2 l1) (.fn f2 c3) (.int .i64 n4) (.int .i64 (w64 (n5 + 1))))) (some (.int .i64 (-1)))) := (aw ..).trans (by kernel_rfl)
def d248 : FD := fd Tryz.f248 12
theorem a7z : (Tryz.prog.funcs[248]?).bind bj = some d248 := by rw [Tryz.func248]; rfl
theorem p9.ae (c1 : List AV) : p9 (.agg 8 c1) = (ab c1 6 fun a2 => asB a2 fun b3 => (ifB (!b3) (ab c1 7 fun a5 => asL 2 a5 fun l6 => some (decide ((l6.length : Int) = 0))) (some false) : Option Bool).bind fun b4 => some (.bool b4)) := (af S 248 _ d248 rfl a7z).trans (by kernel_rfl)
def d255 : FD := fd Tryz.f255 6
theorem a71 : (Tryz.prog.funcs[255]?).bind bj = some d255 := by rw [Tryz.func255]; rfl
theorem j3.ae (n1 : Int) : j3 (.int .i64 n1) = (some (.bool (!decide (n1 = n1)))) := (af S 255 _ d255 rfl a71).trans (by kernel_rfl)
def d256 : FD := fd Tryz.f256 8
theorem a73 : (Tryz.prog.funcs[256]?).bind bj = some d256 := by rw [Tryz.func256]; rfl
theorem gh.ae (s1 s2 : B8) : gh (.str s1) (.str s2) = ((iz (.str s1) (.str s2)).bind fun r3 => asI .i64 r3 fun n4 => some (.int .i64 n4)) := (af S 256 _ d256 rfl a73).trans (by kernel_rfl)
def d257 : FD := fd Tryz.f257 10
theorem a74 : (Tryz.prog.funcs[257]?).bind bj = some d257 := by rw [Tryz.func257]; rfl
theorem ik.ae (c1 c2 : List AV) : ik (.agg 1 c1) (.agg 1 c2) = (ab c1 0 fun a3 => asL 8 a3 fun l4 => ab c2 0 fun a5 => asL 8 a5 fun l6 => (cz (.sl 8 l4) (.sl 8 l6) (.fn 169 [])).bind fun r7 => asI .i64 r7 fun n8 => some (.int .i64 n8)) := (af S 257 _ d257 rfl a74).trans (by kernel_rfl)
def d258 : FD := fd Tryz.f258 82
theorem a77 : (Tryz.prog.funcs[258]?).bind bj = some d258 := by rw [Tryz.func258]; rfl
def gm.j0 (a2 a3 a4 a6 : AV) : Option AV := abo S 258 d258 [1, 1, 1] (look [(2, a2), (3, a3), (4, a4), (6, a6)])
theorem gm.ae (c1 c2 : List AV) : gm (.agg 8 c1) (.agg 8 c2) = ((dr (.agg 8 c1)).bind fun r3 => asB r3 fun b4 => (ifB (!b4) (some true) ((dr (.agg 8 c2)).bind fun r6 => asB r6 fun b7 => some (!b7)) : Option Bool).bind fun b5 => (ifB b5 (some true) (ab c1 0 fun a9 => asI .i64 a9 fun n10 => ab c2 0 fun a11 => asI .i64 a11 fun n12 => some (!decide (n10 = n12))) : Option Bool).bind fun b8 => ifB b8 (some (.tup [.agg 8 [.int .i64 0, .int .i64 0, .int .i64 0, .str [], .bool false, .bool false, .bool false, .sl 2 []], .bool false])) (ab c1 0 fun a13 => asI .i64 a13 fun n14 => ab c1 1 fun a15 => asI .i64 a15 fun n16 => ab c2 1 fun a17 => asI .i64 a17 fun n18 => ab c1 2 fun a19 => asI .i64 a19 fun n20 => ab c2 2 fun a21 => asI .i64 a21 fun n22 => ab c1 4 fun a23 => asB a23 fun b24 => (ifB b24 (ab c2 4 fun a26 => asB a26 fun b27 => some b27) (some false) : Option Bool).bind fun b25 => ifB (decide ((min (n20 : Int) n22 : Int) < (max (n16 : Int) n18))) (some (.tup [.agg 8 [.int .i64 0, .int .i64 0, .int .i64 0, .str [], .bool false, .bool false, .bool false, .sl 2 []], .bool false])) (ab c1 4 fun a28 => asB a28 fun b29 => ifB b29 (ab c2 3 fun a30 => asS a30 fun s31 => gm.j0 (.boxv 8 c1 []) (.boxv 8 c2 []) (.boxv 8 [.int .i64 0, .int .i64 0, .int .i64 0, .str [], .bool false, .bool false, .bool false, .sl 2 []] [(7, .own 2 [])]) (.boxv 8 [.int .i64 n14, .int .i64 (max (n16 : Int) n18), .int .i64 (min (n20 : Int) n22), .str s31, .bool b25, .bool false, .bool false, .sl 2 []] [(7, .own 2 [])])) (ab c2 4 fun a32 => asB a32 fun b33 => (ifB b33 (some true) (ab c1 3 fun a35 => asS a35 fun s36 => ab c2 3 fun a37 => asS a37 fun s38 => some (decide (s36 = s38))) : Option Bool).bind fun b34 => ifB b34 (ab c1 3 fun a39 => asS a39 fun s40 => gm.j0 (.boxv 8 c1 []) (.boxv 8 c2 []) (.boxv 8 [.int .i64 0, .int .i64 0, .int .i64 0, .str [], .bool false, .bool false, .bool false, .sl 2 []] [(7, .own 2 [])]) (.boxv 8 [.int .i64 n14, .int .i64 (max (n16 : Int) n18), .int .i64 (min (n20 : Int) n22), .str s40, .bool b25, .bool false, .bool false, .sl 2 []] [(7, .own 2 [])])) (some (.tup [.agg 8 [.int .i64 0, .int .i64 0, .int .i64 0, .str [], .bool false, .bool false, .bool false, .sl 2 []], .bool false])))))) := (af S 258 _ d258 rfl a77).trans (by kernel_rfl)
theorem gm.aar (c1 c2 : List AV) (n3 n4 n5 : Int) (s6 : B8) (l7 l8 : LL) (n9 n10 n11 : Int) (s12 : B8) (b13 : Bool) (l14 l15 : LL) : gm.j0 (.boxv 8 c1 []) (.boxv 8 c2 []) (.boxv 8 [.int .i64 n3, .int .i64 n4, .int .i64 n5, .str s6, .bool false, .bool false, .bool false, .sl 2 l7] [(7, .own 2 l8)]) (.boxv 8 [.int .i64 n9, .int .i64 n10, .int .i64 n11, .str s12, .bool b13, .bool false, .bool false, .sl 2 l14] [(7, .own 2 l15)]) = (ab c1 5 fun a16 => asB a16 fun b17 => (ifB b17 (some true) (ab c2 5 fun a19 => asB a19 fun b20 => some b20) : Option Bool).bind fun b18 => (ifB b18 ((mu (.agg 8 [.int .i64 n9, .int .i64 n10, .int .i64 n11, .str s12, .bool b13, .bool false, .bool false, .sl 2 l15])).bind fun r22 => asB r22 fun b23 => some (!b23)) (some false) : Option Bool).bind fun b21 => some (.tup [.agg 8 [.int .i64 n9, .int .i64 n10, .int .i64 n11, .str s12, .bool b13, .bool b21, .bool false, .sl 2 l15], .bool true])) := (qx ..).trans (by kernel_rfl)
def d259 : FD := fd Tryz.f259 53
theorem a78 : (Tryz.prog.funcs[259]?).bind bj = some d259 := by rw [Tryz.func259]; rfl
theorem qa.ae (c1 c2 : List AV) : qa (.agg 8 c1) (.agg 8 c2) = ((dr (.agg 8 c1)).bind fun r3 => asB r3 fun b4 => (ifB b4 ((dr (.agg 8 c2)).bind fun r6 => asB r6 fun b7 => some b7) (some false) : Option Bool).bind fun b5 => (ifB b5 (ab c1 0 fun a9 => asI .i64 a9 fun n10 => ab c2 0 fun a11 => asI .i64 a11 fun n12 => some (decide (n10 = n12))) (some false) : Option Bool).bind fun b8 => (ifB b8 (ab c1 1 fun a14 => asI .i64 a14 fun n15 => ab c2 1 fun a16 => asI .i64 a16 fun n17 => some (decide (n15 = n17))) (some false) : Option Bool).bind fun b13 => (ifB b13 (ab c1 2 fun a19 => asI .i64 a19 fun n20 => ab c2 2 fun a21 => asI .i64 a21 fun n22 => some (decide (n20 = n22))) (some false) : Option Bool).bind fun b18 => (ifB b18 (ab c1 3 fun a24 => asS a24 fun s25 => ab c2 3 fun a26 => asS a26 fun s27 => some (decide (s25 = s27))) (some false) : Option Bool).bind fun b23 => (ifB b23 (ab c1 4 fun a29 => asB a29 fun b30 => ab c2 4 fun a31 => asB a31 fun b32 => some (b30 == b32)) (some false) : Option Bool).bind fun b28 => (ifB b28 (ab c1 5 fun a34 => asB a34 fun b35 => ab c2 5 fun a36 => asB a36 fun b37 => some (b35 == b37)) (some false) : Option Bool).bind fun b33 => some (.bool b33)) := (af S 259 _ d259 rfl a78).trans (by kernel_rfl)
def d260 : FD := fd Tryz.f260 10
theorem a79 : (Tryz.prog.funcs[260]?).bind bj = some d260 := by rw [Tryz.func260]; rfl
theorem uf.ae (c1 c2 : List AV) : uf (.agg 2 c1) (.eptr 8 c2 0) = (ab c2 7 fun a3 => asL 2 a3 fun l4 => ab c1 0 fun a5 => asS a5 fun s6 => (tj (.sl 2 l4) (.str s6)).bind fun r7 => asI .i64 r7 fun n8 => some (.bool (decide (n8 < 0)))) := (af S 260 _ d260 rfl a79).trans (by kernel_rfl)
def d261 : FD := fd Tryz.f261 49
theorem a8a : (Tryz.prog.funcs[261]?).bind bj = some d261 := by rw [Tryz.func261]; rfl
def au.l0 (a0 a1 a2 a8 a9 a10 : AV) : Option AV := cj S 261 d261 [1, 1, 1, 0, 0] (look [(0, a0), (1, a1), (2, a2), (8, a8), (9, a9), (10, a10)])
theorem au.ae (l1 : LL) (s2 : B8) (f3 : Nat) (c4 : List AV) : au (.sl 2 l1) (.str s2) (.fn f3 c4) = (au.l0 (.sl 2 l1) (.str s2) (.fn f3 c4) (.int .i64 (l1.length : Int)) (.int .i64 0) (.int .i64 (l1.length : Int))) := (af S 261 _ d261 rfl a8a).trans (by kernel_rfl)
theorem au.ar (l1 : LL) (s2 : B8) (f3 : Nat) (c4 : List AV) (n5 n6 n7 : Int) : au.l0 (.sl 2 l1) (.str s2) (.fn f3 c4) (.int .i64 n5) (.int .i64 n6) (.int .i64 n7) = (ifB (decide (n6 < n7)) (bh (decide ((0 : Int) ≤ 1)) <| idx l1 (w64 (Int.fdiv (IntKind.wrap .u64 (w64 (n6 + n7))) (2 ^ (min (1 : Int).toNat (IntKind.bits .u64))))) fun c8 => (ag S f3 ([.agg 2 c8, .str s2] ++ c4)).bind fun r9 => asI .i64 r9 fun n10 => ifB (decide (n10 < 0)) (au.l0 (.sl 2 l1) (.str s2) (.fn f3 c4) (.int .i64 n5) (.int .i64 (w64 ((w64 (Int.fdiv (IntKind.wrap .u64 (w64 (n6 + n7))) (2 ^ (min (1 : Int).toNat (IntKind.bits .u64))))) + 1))) (.int .i64 n7)) (au.l0 (.sl 2 l1) (.str s2) (.fn f3 c4) (.int .i64 n5) (.int .i64 n6) (.int .i64 (w64 (Int.fdiv (IntKind.wrap .u64 (w64 (n6 + n7))) (2 ^ (min (1 : Int).toNat (IntKind.bits .u64)))))))) ((ifB (decide (n6 < n5)) (idx l1 n6 fun c12 => (ag S f3 ([.agg 2 c12, .str s2] ++ c4)).bind fun r13 => asI .i64 r13 fun n14 => some (decide (n14 = 0))) (some false) : Option Bool).bind fun b11 => some (.tup [.int .i64 n6, .bool b11]))) := (aw ..).trans (by kernel_rfl)
def d262 : FD := fd Tryz.f262 15
theorem a8b : (Tryz.prog.funcs[262]?).bind bj = some d262 := by rw [Tryz.func262]; rfl
theorem vy.ae (c1 : List AV) (s2 : B8) : vy (.agg 2 c1) (.str s2) = (ab c1 0 fun a3 => asS a3 fun s4 => ifB (ai s4 s2) (some (.int .i64 (-1))) (ab c1 0 fun a5 => asS a5 fun s6 => ifB (!(ai s6 s2 || decide (s6 = s2))) (some (.int .i64 1)) (some (.int .i64 0)))) := (af S 262 _ d262 rfl a8b).trans (by kernel_rfl)
def d263 : FD := fd Tryz.f263 9
theorem a8c : (Tryz.prog.funcs[263]?).bind bj = some d263 := by rw [Tryz.func263]; rfl
theorem gi.ae (l1 : LL) (f2 : Nat) (c3 : List AV) : gi (.sl 8 l1) (.fn f2 c3) = ((cp (.sl 8 l1) (.fn f2 c3)).bind fun r4 => asI .i64 r4 fun n5 => some (.bool (decide ((0 : Int) ≤ n5)))) := (af S 263 _ d263 rfl a8c).trans (by kernel_rfl)
def d264 : FD := fd Tryz.f264 7
theorem a8d : (Tryz.prog.funcs[264]?).bind bj = some d264 := by rw [Tryz.func264]; rfl
theorem ug.ae (c1 c2 : List AV) : ug (.agg 8 c1) (.eptr 8 c2 0) = ((dy (.agg 8 c2) (.agg 8 c1)).bind fun r3 => asB r3 fun b4 => some (.bool b4)) := (af S 264 _ d264 rfl a8d).trans (by kernel_rfl)
def d287 : FD := fd Tryz.f287 36
theorem a8e : (Tryz.prog.funcs[287]?).bind bj = some d287 := by rw [Tryz.func287]; rfl
def cz.l0 (a0 a1 a2 a13 a14 : AV) : Option AV := cj S 287 d287 [1, 0, 1, 0] (look [(0, a0), (1, a1), (2, a2), (13, a13), (14, a14)])
theorem cz.ae (l1 l2 : LL) (f3 : Nat) (c4 : List AV) : cz (.sl 8 l1) (.sl 8 l2) (.fn f3 c4) = (cz.l0 (.sl 8 l1) (.sl 8 l2) (.fn f3 c4) (.int .i64 (min (l1.length : Int) (l2.length : Int))) (.int .i64 0)) := (af S 287 _ d287 rfl a8e).trans (by kernel_rfl)
theorem cz.ar (l1 l2 : LL) (f3 : Nat) (c4 : List AV) (n5 n6 : Int) : cz.l0 (.sl 8 l1) (.sl 8 l2) (.fn f3 c4) (.int .i64 n5) (.int .i64 n6) = (ifB (decide (n6 < n5)) (idx l1 n6 fun c7 => idx l2 n6 fun c8 => (ag S f3 ([.agg 8 c7, .agg 8 c8] ++ c4)).bind fun r9 => asI .i64 r9 fun n10 => ifB (!decide (n10 = 0)) (some (.int .i64 n10)) (cz.l0 (.sl 8 l1) (.sl 8 l2) (.fn f3 c4) (.int .i64 n5) (.int .i64 (w64 (n6 + 1))))) ((fm (.int .i64 (l1.length : Int)) (.int .i64 (l2.length : Int))).bind fun r11 => asI .i64 r11 fun n12 => some (.int .i64 n12))) := (aw ..).trans (by kernel_rfl)
def d288 : FD := fd Tryz.f288 19
theorem a8f : (Tryz.prog.funcs[288]?).bind bj = some d288 := by rw [Tryz.func288]; rfl
def cp.l0 (a0 a1 a7 a8 : AV) : Option AV := cj S 288 d288 [1, 0, 1, 0] (look [(0, a0), (1, a1), (7, a7), (8, a8)])
theorem cp.ae (l1 : LL) (f2 : Nat) (c3 : List AV) : cp (.sl 8 l1) (.fn f2 c3) = (cp.l0 (.sl 8 l1) (.fn f2 c3) (.int .i64 (l1.length : Int)) (.int .i64 0)) := (af S 288 _ d288 rfl a8f).trans (by kernel_rfl)
theorem cp.ar (l1 : LL) (f2 : Nat) (c3 : List AV) (n4 n5 : Int) : cp.l0 (.sl 8 l1) (.fn f2 c3) (.int .i64 n4) (.int .i64 n5) = (ifB (decide (n5 < n4)) (idx l1 n5 fun c6 => (ag S f2 ([.agg 8 c6] ++ c3)).bind fun r7 => asB r7 fun b8 => ifB b8 (some (.int .i64 n5)) (cp.l0 (.sl 8 l1) (.fn f2 c3) (.int .i64 n4) (.int .i64 (w64 (n5 + 1))))) (some (.int .i64 (-1)))) := (aw ..).trans (by kernel_rfl)
end Go.Proofs.YtmdimhcjogjcgaaGreatDoor.Abs
namespace Go.Proofs.YtmdimhcjogjcgaaGreatDoor.Lat
open Go.Proofs.YtmdimhcjogjcgaaGreatDoor.Abs
section
variable {α : Type}
theorem ow (a : AV) (c : List AV) (k : AV → Option α) : ab (a :: c) 0 k = k a := rfl
theorem yp (a : AV) (c : List AV) (n : Nat) (k : AV → Option α) : ab (a :: c) (n + 1) k = ab c n k := rfl
theorem dn (n : Int) (k : Int → Option α) : asI .i64 (.int .i64 n) k = k n := rfl
theorem en (b : Bool) (k : Bool → Option α) : asB (.bool b) k = k b := rfl
theorem gx (s : List UInt8) (k : List UInt8 → Option α) : asS (.str s) k = k s := rfl
theorem jr (l : List (List AV)) (k : List (List AV) → Option α) : asL 8 (.sl 8 l) k = k l := rfl
theorem lx (l : List (List AV)) (k : List (List AV) → Option α) : asL 2 (.sl 2 l) k = k l := rfl
theorem ifT (x y : Option α) : ifB true x y = x := rfl
theorem ifF (x y : Option α) : ifB false x y = y := rfl
theorem j8 (b c : Bool) : ifB b (some c) (some false) = some (b && c) := by cases b <;> rfl
theorem orK (b c : Bool) : ifB b (some true) (some c) = some (b || c) := by cases b <;> rfl
theorem a8g (b x y : Bool) : ifB b (some (AV.bool x)) (some (AV.bool y)) = some (AV.bool (if b = true then x else y)) := by cases b <;> rfl
theorem guT (x : Option α) : bh true x = x := rfl
theorem ad {β : Type} (x : β) (f : β → Option α) : (some x).bind f = f x := rfl
theorem ay {β : Type} {l : List β} {j : Nat} {x : β} (h : l[j]? = some x) (k : β → Option α) : idx l (j : Int) k = k x := by
 unfold idx
 rw [Int.toNat_natCast, h]
 have : decide ((0 : Int) ≤ (j : Int)) = true := by simp
 rw [this]; rfl
end
theorem xn {n : Int} (h : -9223372036854775808 ≤ n ∧ n ≤ 9223372036854775807) : w64 n = n := by
 show IntKind.wrap .i64 n = n
 simp [IntKind.wrap, IntKind.bits, IntKind.signed]
 omega
theorem bf {n : Nat} (h : n < 9223372036854775807) : w64 ((n : Int) + 1) = ((n + 1 : Nat) : Int) := by rw [xn (by omega)]; omega
theorem ed (fs : List Fd) : (cb fs).length = fs.length := by rw [jq, List.length_map]
theorem di (v : List Tm) : (ak v).length = v.length := by rw [je, List.length_map]
theorem ayd (t : Tm) : p9 (.agg 8 (ah t)) = some (.bool (!t.o && t.fs.isEmpty)) := by
 obtain ⟨k, lo, hi, s, a, m, o, fs⟩ := t
 simp only [p9.ae, ah, ow, yp, en, lx, ed]
 cases o <;> simp only [Bool.not_true, Bool.not_false, ifT, ifF, ad, Tm.o, Tm.fs, Bool.false_and, Bool.true_and]
 congr 2
 cases fs <;> simp
 omega
theorem aks (t : Tm) : mu (.agg 8 (ah t)) = some (.bool (single t)) := by
 obtain ⟨k, lo, hi, s, a, m, o, fs⟩ := t
 simp only [mu.ae, ah, ow, yp, en, dn, single]
 by_cases h : k = 3 <;> simp [h, ifT, ifF]
theorem tk (t : Tm) : dr (.agg 8 (ah t)) = some (.bool (ji t)) := by
 have hb := ayd t
 have ho := aks t
 obtain ⟨k, lo, hi, s, a, m, o, fs⟩ := t
 simp only [ah] at hb ho
 simp only [dr.ae, dr.aar, ah, ow, yp, en, dn, gx, hb, ho, ad, Tm.o, Tm.fs, ji, j8, orK, a8g]
 congr 2
 generalize single (.mk k lo hi s a m o fs) = g
 cases o <;> cases m <;> cases g <;> cases a <;> cases hf : fs.isEmpty <;> simp
 all_goals (by_cases k3 : k = 3 <;> by_cases k2 : k = 2 <;> by_cases k1 : k = 1 <;> simp [k3, k2, k1] <;> first | omega | skip)
 all_goals (rw [Bool.eq_iff_iff]; simp only [Bool.and_eq_true, decide_eq_true_eq, and_assoc]; try omega)
def afd : AV := .tup [.agg 8 (ah (.mk 0 0 0 [] false false false [])), .bool false]
def yq (a b : Tm) : AV := match aac a b with
 | some m => .tup [.agg 8 (ah m), .bool true]
 | none => afd
theorem auz {a b : Tm} (h : (ji a && ji b && decide (a.k = b.k)) = false) : yq a b = afd := by
 obtain ⟨k, lo, hi, s, x, m, o, fs⟩ := a
 obtain ⟨k', lo', hi', s', x', m', o', fs'⟩ := b
 unfold yq
 rw [aac, if_neg (by rw [show (ji (.mk k lo hi s x m o fs) && ji (.mk k' lo' hi' s' x' m' o' fs') && decide (k = k')) = false from h]; decide)]
theorem au0 {k lo hi lo' hi' : Int} {s s' : Bs} {x m o x' m' o' : Bool} {fs fs' : List Fd} (h1 : ji (.mk k lo hi s x m o fs) = true) (h2 : ji (.mk k lo' hi' s' x' m' o' fs') = true) :
  yq (.mk k lo hi s x m o fs) (.mk k lo' hi' s' x' m' o' fs') = if min hi hi' < max lo lo' then afd else if (x || x' || decide (s = s')) = true then
   .tup [.agg 8 (ah (.mk k (max lo lo') (min hi hi') (bif x then s' else s) (x && x') ((m || m') && !single (.mk k (max lo lo') (min hi hi') (bif x then s' else s) (x && x') false false [])) false [])), .bool true] else afd := by
 unfold yq
 rw [aac, if_pos (by rw [h1, h2]; simp)]
 split
 ·rename_i h; split at h
  ·cases h
  ·rename_i hlt
   rw [if_neg hlt]
   split at h
   ·rename_i hx
    cases h; rw [if_pos hx]
   ·cases h
 ·rename_i h; split at h
  ·rename_i hlt; rw [if_pos hlt]
  ·rename_i hlt
   rw [if_neg hlt]
   split at h
   ·cases h
   ·rename_i hx; rw [if_neg hx]
theorem au1 (a b : Tm) : gm (.agg 8 (ah a)) (.agg 8 (ah b)) = some (yq a b) := by
 have h1 := tk a
 have h2 := tk b
 have hno := @auz a b
 obtain ⟨k, lo, hi, s, x, m, o, fs⟩ := a
 obtain ⟨k', lo', hi', s', x', m', o', fs'⟩ := b
 simp only [ah] at h1 h2
 simp only [gm.ae, ah, ow, yp, en, dn, gx, h1, h2, ad, j8, orK]
 simp only [Tm.k] at hno
 cases e1 : ji (.mk k lo hi s x m o fs) with
 | false => rw [hno (by rw [e1]; rfl)]; rfl
 | true =>
 cases e2 : ji (.mk k' lo' hi' s' x' m' o' fs') with
 | false => rw [hno (by rw [e1, e2]; rfl)]; rfl
 | true =>
 by_cases hk : k = k'
 ·subst hk
  rw [au0 e1 e2]
  have hj : ∀ t : Bs, gm.j0 (AV.boxv 8 [AV.int .i64 k, AV.int .i64 lo, AV.int .i64 hi, AV.str s, AV.bool x, AV.bool m, AV.bool o, AV.sl 2 (cb fs)] []) (AV.boxv 8 [AV.int .i64 k, AV.int .i64 lo', AV.int .i64 hi', AV.str s', AV.bool x', AV.bool m', AV.bool o', AV.sl 2 (cb fs')] [])
    (AV.boxv 8 [AV.int .i64 0, AV.int .i64 0, AV.int .i64 0, AV.str [], AV.bool false, AV.bool false, AV.bool false, AV.sl 2 []] [(7, AV.own 2 [])]) (AV.boxv 8 [AV.int .i64 k, AV.int .i64 (max lo lo'), AV.int .i64 (min hi hi'), AV.str t, AV.bool (x && x'), AV.bool false, AV.bool false, AV.sl 2 []] [(7, AV.own 2 [])]) =
    some (.tup [.agg 8 (ah (.mk k (max lo lo') (min hi hi') t (x && x') ((m || m') && !single (.mk k (max lo lo') (min hi hi') t (x && x') false false [])) false [])), .bool true]) := fun t => by
   have ho := aks (.mk k (max lo lo') (min hi hi') t (x && x') false false [])
   simp only [ah, cb] at ho
   simp only [gm.aar, ow, yp, en, orK, ad, ho, j8, ah, cb]
  simp only [Bool.not_true, Bool.or_self, decide_true, ifF]
  by_cases hlt : min hi hi' < max lo lo'
  ·simp only [hlt, decide_true, ifT, if_true]; rfl
  ·simp only [hlt, decide_false, ifF, if_false]
   cases x with
   | true => rw [ifT, hj]; rfl
   | false =>
    rw [ifF]
    cases hq : (x' || decide (s = s')) with
    | true => rw [ifT, hj, if_pos (by simpa using hq)]; rfl
    | false => rw [ifF, if_neg (by rw [Bool.false_or, hq]; decide)]; rfl
 ·rw [hno (by rw [e1, e2]; simp [hk])]
  simp only [hk, decide_false, Bool.not_true, Bool.not_false, Bool.or_true, ifT]
  rfl
theorem au2 (a b : Tm) : qa (.agg 8 (ah a)) (.agg 8 (ah b)) = some (.bool (ao2 a b)) := by
 have h1 := tk a
 have h2 := tk b
 obtain ⟨k, lo, hi, s, x, m, o, fs⟩ := a
 obtain ⟨k', lo', hi', s', x', m', o', fs'⟩ := b
 simp only [ah] at h1 h2
 simp only [qa.ae, ah, ow, yp, en, dn, gx, h1, h2, ad, j8, ao2]
 congr 2
 rw [Bool.eq_iff_iff]
 simp only [Bool.and_eq_true, decide_eq_true_eq, and_assoc]
theorem am6 (a b : Tm) : (∃ m, aac a b = some m ∧ yq a b = .tup [.agg 8 (ah m), .bool true]) ∨ (aac a b = none ∧ yq a b = afd) := by
 unfold yq
 cases aac a b with
 | none => exact .inr ⟨rfl, rfl⟩
 | some m => exact .inl ⟨m, rfl, rfl⟩
theorem ape {α : Type} (c : List AV) (k : List AV → Option α) : asC 8 (.agg 8 c) k = k c := rfl
theorem ajn {α : Type} (a b : AV) (k : AV → AV → Option α) : lg (.tup [a, b]) k = k a b := rfl
theorem aro (a b : Tm) : o9 (.agg 8 (ah a)) (.agg 8 (ah b)) = some (.bool (ae0 a b)) := by
 rw [o9.ae, au1, ad]
 unfold ae0
 rcases am6 a b with ⟨m, h1, h2⟩ | ⟨h1, h2⟩
 ·rw [h1, h2]
  simp only [ajn, ape, en, ifT, au2, ad]
 ·rw [h1, h2]; rfl
end Go.Proofs.YtmdimhcjogjcgaaGreatDoor.Lat
