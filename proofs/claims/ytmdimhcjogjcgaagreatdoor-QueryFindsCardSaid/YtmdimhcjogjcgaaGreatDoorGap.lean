/- What the code comes to, function by function (printed by gen.py). -/
import Derived.Test.YtmdimhcjogjcgaaGreatDoorGaj
import Derived.Test.YtmdimhcjogjcgaaGreatDoorGah
import Derived.Test.YtmdimhcjogjcgaaGreatDoorGak
import Derived.Test.YtmdimhcjogjcgaaGreatDoorGal
import Derived.Test.YtmdimhcjogjcgaaGreatDoorGam
import Derived.Test.YtmdimhcjogjcgaaGreatDoorGan
import Derived.Test.YtmdimhcjogjcgaaGreatDoorGao
import Derived.Test.YtmdimhcjogjcgaaGreatDoorGac
set_option linter.all false
set_option maxRecDepth 100000
noncomputable section
namespace Go.Proofs.YtmdimhcjogjcgaaGreatDoor.Abs
def d272 : FD := fd Tryz.f272 32
theorem bme : (Tryz.prog.funcs[272]?).bind ay = some d272 := by rw [Tryz.func272]; rfl
def j6.l0 (a0 a5 a6 a7 : AV) : Option AV := bn S 272 d272 [1, 0, 1, 0] (look [(0, a0), (5, a5), (6, a6), (7, a7)])
theorem j6.ae (l1 : LL) : j6 (.sl 8 l1) = (j6.l0 (.sl 8 l1) (.sl 8 l1) (.int .i64 (l1.length : Int)) (.int .i64 0)) := (af S 272 _ d272 rfl bme).trans (by kernel_rfl)
theorem j6.ai (l1 l2 : LL) (n3 n4 : Int) : j6.l0 (.sl 8 l1) (.sl 8 l2) (.int .i64 n3) (.int .i64 n4) = (ifB (decide (n4 < n3)) (idx l2 n4 fun c5 => aa c5 0 fun a6 => asS a6 fun s7 => (yt (.str s7)).bind fun r8 => asB r8 fun b9 => (ifB (!b9) (some true) ((ifB (decide ((0 : Int) < n4)) (aa c5 0 fun a12 => asS a12 fun s13 => idx l1 (w64 (n4 - 1)) fun c14 => aa c14 0 fun a15 => asS a15 fun s16 => some (aw s13 s16 || decide (s13 = s16))) (some false) : Option Bool).bind fun b11 => some b11) : Option Bool).bind fun b10 => ifB b10 (some (.bool false)) (j6.l0 (.sl 8 l1) (.sl 8 l2) (.int .i64 n3) (.int .i64 (w64 (n4 + 1))))) (some (.bool true))) := (ak ..).trans (by kernel_rfl)
def d273 : FD := fd Tryz.f273 19
theorem bmf : (Tryz.prog.funcs[273]?).bind ay = some d273 := by rw [Tryz.func273]; rfl
def dr.l0 (a0 a1 a7 a8 : AV) : Option AV := bn S 273 d273 [1, 0, 1, 0] (look [(0, a0), (1, a1), (7, a7), (8, a8)])
theorem dr.ae (l1 : LL) (f2 : Nat) (c3 : List AV) : dr (.sl 7 l1) (.fn f2 c3) = (dr.l0 (.sl 7 l1) (.fn f2 c3) (.int .i64 (l1.length : Int)) (.int .i64 0)) := (af S 273 _ d273 rfl bmf).trans (by kernel_rfl)
theorem dr.ai (l1 : LL) (f2 : Nat) (c3 : List AV) (n4 n5 : Int) : dr.l0 (.sl 7 l1) (.fn f2 c3) (.int .i64 n4) (.int .i64 n5) = (ifB (decide (n5 < n4)) (idx l1 n5 fun c6 => (ah S f2 ([.agg 7 c6] ++ c3)).bind fun r7 => asB r7 fun b8 => ifB b8 (some (.int .i64 n5)) (dr.l0 (.sl 7 l1) (.fn f2 c3) (.int .i64 n4) (.int .i64 (w64 (n5 + 1))))) (some (.int .i64 (-1)))) := (ak ..).trans (by kernel_rfl)
def d287 : FD := fd Tryz.f287 36
theorem bmg : (Tryz.prog.funcs[287]?).bind ay = some d287 := by rw [Tryz.func287]; rfl
def ek.l0 (a0 a1 a2 a13 a14 : AV) : Option AV := bn S 287 d287 [1, 0, 1, 0] (look [(0, a0), (1, a1), (2, a2), (13, a13), (14, a14)])
theorem ek.ae (l1 l2 : LL) (f3 : Nat) (c4 : List AV) : ek (.sl 8 l1) (.sl 8 l2) (.fn f3 c4) = (ek.l0 (.sl 8 l1) (.sl 8 l2) (.fn f3 c4) (.int .i64 (min (l1.length : Int) (l2.length : Int))) (.int .i64 0)) := (af S 287 _ d287 rfl bmg).trans (by kernel_rfl)
theorem ek.ai (l1 l2 : LL) (f3 : Nat) (c4 : List AV) (n5 n6 : Int) : ek.l0 (.sl 8 l1) (.sl 8 l2) (.fn f3 c4) (.int .i64 n5) (.int .i64 n6) = (ifB (decide (n6 < n5)) (idx l1 n6 fun c7 => idx l2 n6 fun c8 => (ah S f3 ([.agg 8 c7, .agg 8 c8] ++ c4)).bind fun r9 => asI .i64 r9 fun n10 => ifB (!decide (n10 = 0)) (some (.int .i64 n10)) (ek.l0 (.sl 8 l1) (.sl 8 l2) (.fn f3 c4) (.int .i64 n5) (.int .i64 (w64 (n6 + 1))))) ((jr (.int .i64 (l1.length : Int)) (.int .i64 (l2.length : Int))).bind fun r11 => asI .i64 r11 fun n12 => some (.int .i64 n12))) := (ak ..).trans (by kernel_rfl)
def d288 : FD := fd Tryz.f288 19
theorem bmh : (Tryz.prog.funcs[288]?).bind ay = some d288 := by rw [Tryz.func288]; rfl
def dt.l0 (a0 a1 a7 a8 : AV) : Option AV := bn S 288 d288 [1, 0, 1, 0] (look [(0, a0), (1, a1), (7, a7), (8, a8)])
theorem dt.ae (l1 : LL) (f2 : Nat) (c3 : List AV) : dt (.sl 8 l1) (.fn f2 c3) = (dt.l0 (.sl 8 l1) (.fn f2 c3) (.int .i64 (l1.length : Int)) (.int .i64 0)) := (af S 288 _ d288 rfl bmh).trans (by kernel_rfl)
theorem dt.ai (l1 : LL) (f2 : Nat) (c3 : List AV) (n4 n5 : Int) : dt.l0 (.sl 8 l1) (.fn f2 c3) (.int .i64 n4) (.int .i64 n5) = (ifB (decide (n5 < n4)) (idx l1 n5 fun c6 => (ah S f2 ([.agg 8 c6] ++ c3)).bind fun r7 => asB r7 fun b8 => ifB b8 (some (.int .i64 n5)) (dt.l0 (.sl 8 l1) (.fn f2 c3) (.int .i64 n4) (.int .i64 (w64 (n5 + 1))))) (some (.int .i64 (-1)))) := (ak ..).trans (by kernel_rfl)
end Go.Proofs.YtmdimhcjogjcgaaGreatDoor.Abs
namespace Go.Proofs.YtmdimhcjogjcgaaGreatDoor.Lat
open Go.Proofs.YtmdimhcjogjcgaaGreatDoor.Abs
section
variable {α : Type}
theorem mg (a : AV) (c : List AV) (k : AV → Option α) : aa (a :: c) 0 k = k a := rfl
theorem uu (a : AV) (c : List AV) (n : Nat) (k : AV → Option α) : aa (a :: c) (n + 1) k = aa c n k := rfl
theorem bf (n : Int) (k : Int → Option α) : asI .i64 (.int .i64 n) k = k n := rfl
theorem bq (b : Bool) (k : Bool → Option α) : asB (.bool b) k = k b := rfl
theorem cf (s : List UInt8) (k : List UInt8 → Option α) : asS (.str s) k = k s := rfl
theorem ic (l : List (List AV)) (k : List (List AV) → Option α) : asL 8 (.sl 8 l) k = k l := rfl
theorem jk (l : List (List AV)) (k : List (List AV) → Option α) : asL 2 (.sl 2 l) k = k l := rfl
theorem ifT (x y : Option α) : ifB true x y = x := rfl
theorem ifF (x y : Option α) : ifB false x y = y := rfl
theorem kq (b c : Bool) : ifB b (some c) (some false) = some (b && c) := by cases b <;> rfl
theorem orK (b c : Bool) : ifB b (some true) (some c) = some (b || c) := by cases b <;> rfl
theorem a7a (b x y : Bool) : ifB b (some (AV.bool x)) (some (AV.bool y)) = some (AV.bool (if b = true then x else y)) := by cases b <;> rfl
theorem guT (x : Option α) : aq true x = x := rfl
theorem ab {β : Type} (x : β) (f : β → Option α) : (some x).bind f = f x := rfl
theorem an {β : Type} {l : List β} {j : Nat} {x : β} (h : l[j]? = some x) (k : β → Option α) : idx l (j : Int) k = k x := by
 unfold idx
 rw [Int.toNat_natCast, h]
 have : decide ((0 : Int) ≤ (j : Int)) = true := by simp
 rw [this]; rfl
end
theorem qm {n : Int} (h : -9223372036854775808 ≤ n ∧ n ≤ 9223372036854775807) : w64 n = n := by
 show IntKind.wrap .i64 n = n
 simp [IntKind.wrap, IntKind.bits, IntKind.signed]
 omega
theorem aj {n : Nat} (h : n < 9223372036854775807) : w64 ((n : Int) + 1) = ((n + 1 : Nat) : Int) := by rw [qm (by omega)]; omega
theorem cp (fs : List Fd) : (cq fs).length = fs.length := by rw [nx, List.length_map]
theorem ct (v : List Tm) : (al v).length = v.length := by rw [nw, List.length_map]
theorem sd (t : Tm) : xa (.agg 8 (ao t)) = some (.bool (!t.o && t.fs.isEmpty)) := by
 obtain ⟨k, lo, hi, s, a, m, o, fs⟩ := t
 simp only [xa.ae, ao, mg, uu, bq, jk, cp]
 cases o <;> simp only [Bool.not_true, Bool.not_false, ifT, ifF, ab, Tm.o, Tm.fs, Bool.false_and, Bool.true_and]
 congr 2
 cases fs <;> simp
 omega
theorem asx (t : Tm) : tc (.agg 8 (ao t)) = some (.bool (single t)) := by
 obtain ⟨k, lo, hi, s, a, m, o, fs⟩ := t
 simp only [tc.ae, ao, mg, uu, bq, bf, single]
 by_cases h : k = 3 <;> simp [h, ifT, ifF]
theorem zo (t : Tm) : gb (.agg 8 (ao t)) = some (.bool (kv t)) := by
 have hb := sd t
 have ho := asx t
 obtain ⟨k, lo, hi, s, a, m, o, fs⟩ := t
 simp only [ao] at hb ho
 simp only [gb.ae, gb.wh, ao, mg, uu, bq, bf, cf, hb, ho, ab, Tm.o, Tm.fs, kv, kq, orK, a7a]
 congr 2
 generalize single (.mk k lo hi s a m o fs) = g
 cases o <;> cases m <;> cases g <;> cases a <;> cases hf : fs.isEmpty <;> simp
 all_goals (by_cases k3 : k = 3 <;> by_cases k2 : k = 2 <;> by_cases k1 : k = 1 <;> simp [k3, k2, k1] <;> first | omega | skip)
 all_goals (rw [Bool.eq_iff_iff]; simp only [Bool.and_eq_true, decide_eq_true_eq, and_assoc]; try omega)
theorem agb (t : Tm) : pq (.agg 8 (ao t)) = some (.bool (single t)) := by
 obtain ⟨k, lo, hi, s, a, m, o, fs⟩ := t
 simp only [pq.ae, ao, mg, uu, bq, bf, single]
 by_cases h : k = 3 <;> simp [h, ifT, ifF]
theorem ac4 (t : Tm) : oe (.agg 8 (ao t)) = some (.bool (kv t)) := by
 have ho := agb t
 obtain ⟨k, lo, hi, s, a, m, o, fs⟩ := t
 simp only [ao] at ho
 simp only [oe.ae, ao, mg, uu, bq, bf, cf, jk, cp, ho, ab, kv, kq, orK, a7a]
 congr 2
 generalize single (.mk k lo hi s a m o fs) = g
 cases o <;> cases m <;> cases g <;> cases a <;> cases fs <;> simp
 all_goals (by_cases k3 : k = 3 <;> by_cases k1 : k = 1 <;> by_cases k2 : k = 2 <;> by_cases hs : s = [] <;> simp [k3, k1, k2, hs])
 all_goals (rw [Bool.eq_iff_iff]; simp only [Bool.and_eq_true, decide_eq_true_eq, Bool.not_eq_true', decide_eq_false_iff_not]; omega)
theorem td {t : Tm} (h : kv t = true) : t.o = false ∧ t.fs = [] ∧ (t.k = 3 → t.lo = 0 ∧ t.hi = 0 ∧ (t.a = true → t.s = [])) ∧ (t.k ≠ 3 → t.s = [] ∧ t.a = false) ∧ (t.m = true → single t = false) ∧ (t.k = 1 ∨ t.k = 2 ∨ t.k = 3) := by
 obtain ⟨k, lo, hi, s, a, m, o, fs⟩ := t
 rw [kv] at h
 by_cases hn : (o || !fs.isEmpty || (m && single (.mk k lo hi s a m o fs))) = true
 ·rw [if_pos hn] at h; cases h
 ·rw [if_neg hn] at h
  simp only [Bool.or_eq_true, not_or, Bool.not_eq_true, Bool.not_eq_false', List.isEmpty_iff, Bool.and_eq_false_iff] at hn
  obtain ⟨⟨rfl, rfl⟩, hm⟩ := hn
  refine ⟨rfl, rfl, fun h3 => ?_, fun h3 => ?_, fun h3 => ?_, ?_⟩
  ·have h3 : k = 3 := h3
   rw [if_pos h3] at h
   simp only [Bool.and_eq_true, decide_eq_true_eq] at h
   refine ⟨h.1.1, h.1.2, fun ha => ?_⟩
   have ha : a = true := ha
   rw [ha, if_pos rfl] at h
   have : s = [] := by simpa using h.2
   exact this
  ·have h3 : ¬ k = 3 := h3
   rw [if_neg h3] at h
   split at h
   ·simp at h; exact ⟨h.1.2.2.2, h.2⟩
   ·split at h
    ·simp at h; exact ⟨h.1.2.2.2, h.2⟩
    ·cases h
  ·have h3 : m = true := h3
   rcases hm with hm | hm
   ·rw [h3] at hm; cases hm
   ·exact hm
  ·show k = 1 ∨ k = 2 ∨ k = 3
   split at h
   ·exact .inr (.inr ‹_›)
   ·split at h
    ·exact .inl ‹_›
    ·split at h
     ·exact .inr (.inl ‹_›)
     ·cases h
def agc : AV := .tup [.agg 8 (ao (.mk 0 0 0 [] false false false [])), .bool false]
def abw (a b : Tm) : AV := match afx a b with
 | some m => .tup [.agg 8 (ao m), .bool true]
 | none => agc
theorem asy {a b : Tm} (h : (kv a && kv b && decide (a.k = b.k)) = false) : abw a b = agc := by
 obtain ⟨k, lo, hi, s, x, m, o, fs⟩ := a
 obtain ⟨k', lo', hi', s', x', m', o', fs'⟩ := b
 unfold abw
 rw [afx, if_neg (by rw [show (kv (.mk k lo hi s x m o fs) && kv (.mk k' lo' hi' s' x' m' o' fs') && decide (k = k')) = false from h]; decide)]
theorem asz {k lo hi lo' hi' : Int} {s s' : Bs} {x m o x' m' o' : Bool} {fs fs' : List Fd} (h1 : kv (.mk k lo hi s x m o fs) = true) (h2 : kv (.mk k lo' hi' s' x' m' o' fs') = true) :
  abw (.mk k lo hi s x m o fs) (.mk k lo' hi' s' x' m' o' fs') = if min hi hi' < max lo lo' then agc else if (x || x' || decide (s = s')) = true then
   .tup [.agg 8 (ao (.mk k (max lo lo') (min hi hi') (bif x then s' else s) (x && x') ((m || m') && !single (.mk k (max lo lo') (min hi hi') (bif x then s' else s) (x && x') false false [])) false [])), .bool true] else agc := by
 unfold abw
 rw [afx, if_pos (by rw [h1, h2]; simp)]
 split
 ·rename_i h; split at h
  ·cases h
  ·rename_i hlt
   rw [if_neg hlt]
   split at h
   ·rename_i hx
    cases h; rw [if_pos hx]
   ·cases h
 ·rename_i h; split at h
  ·rename_i hlt; rw [if_pos hlt]
  ·rename_i hlt
   rw [if_neg hlt]
   split at h
   ·cases h
   ·rename_i hx; rw [if_neg hx]
theorem a7b (a b : Tm) : la (.agg 8 (ao a)) (.agg 8 (ao b)) = some (abw a b) := by
 have h1 := zo a
 have h2 := zo b
 have hno := @asy a b
 obtain ⟨k, lo, hi, s, x, m, o, fs⟩ := a
 obtain ⟨k', lo', hi', s', x', m', o', fs'⟩ := b
 simp only [ao] at h1 h2
 simp only [la.ae, ao, mg, uu, bq, bf, cf, h1, h2, ab, kq, orK]
 simp only [Tm.k] at hno
 cases e1 : kv (.mk k lo hi s x m o fs) with
 | false => rw [hno (by rw [e1]; rfl)]; rfl
 | true =>
 cases e2 : kv (.mk k' lo' hi' s' x' m' o' fs') with
 | false => rw [hno (by rw [e1, e2]; rfl)]; rfl
 | true =>
 by_cases hk : k = k'
 ·subst hk
  rw [asz e1 e2]
  have hj : ∀ t : Bs, la.j0 (AV.boxv 8 [AV.int .i64 k, AV.int .i64 lo, AV.int .i64 hi, AV.str s, AV.bool x, AV.bool m, AV.bool o, AV.sl 2 (cq fs)] []) (AV.boxv 8 [AV.int .i64 k, AV.int .i64 lo', AV.int .i64 hi', AV.str s', AV.bool x', AV.bool m', AV.bool o', AV.sl 2 (cq fs')] [])
    (AV.boxv 8 [AV.int .i64 0, AV.int .i64 0, AV.int .i64 0, AV.str [], AV.bool false, AV.bool false, AV.bool false, AV.sl 2 []] [(7, AV.own 2 [])]) (AV.boxv 8 [AV.int .i64 k, AV.int .i64 (max lo lo'), AV.int .i64 (min hi hi'), AV.str t, AV.bool (x && x'), AV.bool false, AV.bool false, AV.sl 2 []] [(7, AV.own 2 [])]) =
    some (.tup [.agg 8 (ao (.mk k (max lo lo') (min hi hi') t (x && x') ((m || m') && !single (.mk k (max lo lo') (min hi hi') t (x && x') false false [])) false [])), .bool true]) := fun t => by
   have ho := asx (.mk k (max lo lo') (min hi hi') t (x && x') false false [])
   simp only [ao, cq] at ho
   simp only [la.wh, mg, uu, bq, orK, ab, ho, kq, ao, cq]
  simp only [Bool.not_true, Bool.or_self, decide_true, ifF]
  by_cases hlt : min hi hi' < max lo lo'
  ·simp only [hlt, decide_true, ifT, if_true]; rfl
  ·simp only [hlt, decide_false, ifF, if_false]
   cases x with
   | true => rw [ifT, hj]; rfl
   | false =>
    rw [ifF]
    cases hq : (x' || decide (s = s')) with
    | true => rw [ifT, hj, if_pos (by simpa using hq)]; rfl
    | false => rw [ifF, if_neg (by rw [Bool.false_or, hq]; decide)]; rfl
 ·rw [hno (by rw [e1, e2]; simp [hk])]
  simp only [hk, decide_false, Bool.not_true, Bool.not_false, Bool.or_true, ifT]
  rfl
theorem a7c (a b : Tm) : ea (.agg 8 (ao a)) (.agg 8 (ao b)) = some (abw a b) := by
 have h1 := ac4 a
 have h2 := ac4 b
 have hno := @asy a b
 have f1 := @td a
 have f2 := @td b
 obtain ⟨k, lo, hi, s, x, m, o, fs⟩ := a
 obtain ⟨k', lo', hi', s', x', m', o', fs'⟩ := b
 simp only [ao] at h1 h2
 simp only [ea.ae, ao, mg, uu, bq, bf, cf, h1, h2, ab, kq, orK]
 simp only [Tm.k, Tm.o, Tm.fs, Tm.lo, Tm.hi, Tm.a, Tm.s, Tm.m] at hno f1 f2
 cases e1 : kv (.mk k lo hi s x m o fs) with
 | false => rw [hno (by rw [e1]; rfl)]; rfl
 | true =>
 cases e2 : kv (.mk k' lo' hi' s' x' m' o' fs') with
 | false => rw [hno (by rw [e1, e2]; rfl)]; rfl
 | true =>
 by_cases hk : k = k'
 ·subst hk
  obtain ⟨rfl, rfl, g3, g4, _, _⟩ := f1 e1
  obtain ⟨rfl, rfl, g3', g4', _, _⟩ := f2 e2
  rw [asz e1 e2]
  have hj2 : ∀ (t : Bs) (y : Bool) (L H : Int), L = max lo lo' → H = min hi hi' → ea.j2 (AV.boxv 8 [AV.int .i64 k, AV.int .i64 lo, AV.int .i64 hi, AV.str s, AV.bool x, AV.bool m, AV.bool false, AV.sl 2 (cq [])] []) (AV.boxv 8 [AV.int .i64 k, AV.int .i64 lo', AV.int .i64 hi', AV.str s', AV.bool x', AV.bool m', AV.bool false, AV.sl 2 (cq [])] [])
    (AV.boxv 8 [AV.int .i64 0, AV.int .i64 0, AV.int .i64 0, AV.str [], AV.bool false, AV.bool false, AV.bool false, AV.sl 2 []] [(7, AV.own 2 [])]) (AV.boxv 8 [AV.int .i64 k, AV.int .i64 L, AV.int .i64 H, AV.str t, AV.bool y, AV.bool false, AV.bool false, AV.sl 2 (cq [])] []) =
    some (if min hi hi' < max lo lo' then agc else .tup [.agg 8 (ao (.mk k (max lo lo') (min hi hi') t y ((m || m') && !single (.mk k (max lo lo') (min hi hi') t y false false [])) false [])), .bool true]) := fun t y L H hL hH => by
   subst hL hH
   have ho := agb (.mk k (max lo lo') (min hi hi') t y false false [])
   simp only [ao] at ho
   simp only [ea.af9, mg, uu, bq, bf, orK, ab, ho, kq, ao]
   by_cases hlt : min hi hi' < max lo lo'
   ·simp only [hlt, decide_true, ifT, if_true]; rfl
   ·simp only [hlt, decide_false, ifF, if_false]
    cases single (.mk k (max lo lo') (min hi hi') t y false false []) <;> cases m <;> cases m' <;> rfl
  have hj : ∀ (t : Bs) (y : Bool), ea.j0 (AV.boxv 8 [AV.int .i64 k, AV.int .i64 lo, AV.int .i64 hi, AV.str s, AV.bool x, AV.bool m, AV.bool false, AV.sl 2 (cq [])] []) (AV.boxv 8 [AV.int .i64 k, AV.int .i64 lo', AV.int .i64 hi', AV.str s', AV.bool x', AV.bool m', AV.bool false, AV.sl 2 (cq [])] [])
    (AV.boxv 8 [AV.int .i64 0, AV.int .i64 0, AV.int .i64 0, AV.str [], AV.bool false, AV.bool false, AV.bool false, AV.sl 2 []] [(7, AV.own 2 [])]) (AV.boxv 8 [AV.int .i64 k, AV.int .i64 lo, AV.int .i64 hi, AV.str t, AV.bool y, AV.bool false, AV.bool false, AV.sl 2 (cq [])] []) =
    some (if min hi hi' < max lo lo' then agc else .tup [.agg 8 (ao (.mk k (max lo lo') (min hi hi') t y ((m || m') && !single (.mk k (max lo lo') (min hi hi') t y false false [])) false [])), .bool true]) := fun t y => by
   simp only [ea.wh, ea.mf, mg, uu, bq, bf, List.set_cons_succ, List.set_cons_zero]
   by_cases c1 : lo < lo' <;> by_cases c2 : hi' < hi <;> simp only [c1, c2, decide_true, decide_false, ifT, ifF]
   ·exact hj2 t y _ _ (by omega) (by omega)
   ·exact hj2 t y _ _ (by omega) (by omega)
   ·exact hj2 t y _ _ (by omega) (by omega)
   ·exact hj2 t y _ _ (by omega) (by omega)
  simp only [Bool.not_true, Bool.or_self, decide_true, ifF, List.set_cons_succ, List.set_cons_zero]
  by_cases k3 : k = 3
  ·obtain ⟨rfl, rfl, _⟩ := g3 k3
   obtain ⟨rfl, rfl, _⟩ := g3' k3
   subst k3
   simp only [decide_true, ifT]
   by_cases hs : s = s'
   ·subst hs
    cases x <;> cases x' <;> simp [hj, ifT, ifF]
   ·cases x <;> cases x' <;> simp [hj, ifT, ifF, hs]
    all_goals rfl
  ·obtain ⟨rfl, rfl⟩ := g4 k3
   obtain ⟨rfl, rfl⟩ := g4' k3
   simp only [k3, decide_false, ifF, hj]
   simp
 ·rw [hno (by rw [e1, e2]; simp [hk])]
  simp only [hk, decide_false, Bool.not_true, Bool.not_false, Bool.or_true, ifT]
  rfl
theorem a7d (a b : Tm) : xb (.agg 8 (ao a)) (.agg 8 (ao b)) = some (.bool (alm a b)) := by
 have h1 := zo a
 have h2 := zo b
 obtain ⟨k, lo, hi, s, x, m, o, fs⟩ := a
 obtain ⟨k', lo', hi', s', x', m', o', fs'⟩ := b
 simp only [ao] at h1 h2
 simp only [xb.ae, ao, mg, uu, bq, bf, cf, h1, h2, ab, kq, alm]
 congr 2
 rw [Bool.eq_iff_iff]
 simp only [Bool.and_eq_true, decide_eq_true_eq, and_assoc]
theorem a7e (a b : Tm) : yx (.agg 8 (ao a)) (.agg 8 (ao b)) = some (.bool (alm a b)) := by
 have h1 := ac4 a
 have h2 := ac4 b
 obtain ⟨k, lo, hi, s, x, m, o, fs⟩ := a
 obtain ⟨k', lo', hi', s', x', m', o', fs'⟩ := b
 simp only [ao] at h1 h2
 simp only [yx.ae, ao, mg, uu, bq, bf, cf, h1, h2, ab, kq, orK, a7a, alm]
 congr 2
 cases kv (.mk k lo hi s x m o fs) <;> cases kv (.mk k' lo' hi' s' x' m' o' fs') <;> simp
 rw [Bool.eq_iff_iff]
 simp only [Bool.and_eq_true, decide_eq_true_eq, and_assoc]
theorem ajo (a b : Tm) : (∃ m, afx a b = some m ∧ abw a b = .tup [.agg 8 (ao m), .bool true]) ∨ (afx a b = none ∧ abw a b = agc) := by
 unfold abw
 cases afx a b with
 | none => exact .inr ⟨rfl, rfl⟩
 | some m => exact .inl ⟨m, rfl, rfl⟩
theorem as0 {α : Type} (c : List AV) (k : List AV → Option α) : asC 8 (.agg 8 c) k = k c := rfl
theorem agd {α : Type} (a b : AV) (k : AV → AV → Option α) : ja (.tup [a, b]) k = k a b := rfl
theorem a1z (a b : Tm) : vk (.agg 8 (ao a)) (.agg 8 (ao b)) = some (.bool (ae9 a b)) := by
 rw [vk.ae, a7b, ab]
 unfold ae9
 rcases ajo a b with ⟨m, h1, h2⟩ | ⟨h1, h2⟩
 ·rw [h1, h2]
  simp only [agd, as0, bq, ifT, a7d, ab]
 ·rw [h1, h2]; rfl
theorem a2a (a b : Tm) : wz (.agg 8 (ao a)) (.agg 8 (ao b)) = some (.bool (ae9 a b)) := by
 rw [wz.ae, a7c, ab]
 unfold ae9
 rcases ajo a b with ⟨m, h1, h2⟩ | ⟨h1, h2⟩
 ·rw [h1, h2]
  simp only [agd, as0, bq, ifT, a7e, ab]
 ·rw [h1, h2]; rfl
end Go.Proofs.YtmdimhcjogjcgaaGreatDoor.Lat
namespace Go.Proofs.YtmdimhcjogjcgaaGreatDoor.Lat
open Go.Proofs.YtmdimhcjogjcgaaGreatDoor.Abs
theorem bc {β : Type} {l : List β} {i : Nat} (h : l.length ≤ i) : l.drop i = [] := List.drop_eq_nil_of_le h
theorem au {β : Type} {l : List β} {i : Nat} (h : i < l.length) : l.drop i = l[i] :: l.drop (i + 1) := List.drop_eq_getElem_cons h
theorem ahp {f : Nat} {g : List AV → Option AV} (h : OO f = some g) (l : List AV) : ah S f l = g l := by rw [rr]; exact ahg S f l g h
theorem an3 (a b : Int) : jr (.int .i64 a) (.int .i64 b) = some (.int .i64 (nv a b)) := by
 have e : ∀ n : Int, pg (.int .i64 n) = some (.bool false) := fun n => by rw [pg.ae]; simp
 rw [jr.ae, e, e]
 simp only [ab, bq, ifF, nv]
 by_cases h : a < b
 ·simp [h, ifT]
 ·by_cases h2 : b < a <;> simp [h, h2, ifF, ifT]
theorem an4 (a b : Int) : o0 (.int .i64 a) (.int .i64 b) = some (.int .i64 (nv a b)) := by
 rw [o0.ae]
 unfold nv
 by_cases h : a < b
 ·simp [h, ifT]
 ·by_cases h2 : b < a <;> simp [h, h2, ifF, ifT]
theorem as1 : ∀ a b : Bs, Lib.compareBytes a b = ru a b
 | [], [] => rfl
 | [], _ :: _ => rfl
 | _ :: _, [] => rfl
 | x :: a, y :: b => by
  rw [Lib.compareBytes, as1 a b]
  unfold ru
  simp only [aw]
  by_cases h : x < y
  ·simp [h]
  ·by_cases h2 : y < x
   ·have hne : ¬ x = y := fun e => by subst e; exact absurd h2 (UInt8.lt_irrefl _)
    simp [h, h2, hne]
   ·have : x = y := UInt8.toNat_inj.1 (by rw [aiu] at h h2; omega)
    subst this
    simp [h]
theorem aw2 (a b : Bs) : ow (.str a) (.str b) = some (.int .i64 (ru a b)) := by
 rw [ow.ae, kn.ae]
 have : my (.str a) (.str b) = some (.int .i64 (ru a b)) := by
  rw [← as1]
  exact ahp (f := 286) rfl _
 rw [this]; rfl
theorem as2 (a b : Bs) : uh (.str a) (.str b) = some (.int .i64 (ru a b)) := by
 rw [uh.ae]
 unfold ru
 cases h : aw a b with
 | true => rfl
 | false =>
  rw [ifF]
  cases h2 : aw b a with
  | true =>
   have : ¬ a = b := fun e => by subst e; rw [mo] at h2; cases h2
   simp [this, ifT]
  | false =>
   have := vc a b h h2
   subst this
   simp [ifF]
theorem bbl (b : Bool) : pc (.bool b) = some (.int .i64 (flag b)) := by rw [pc.ae]; cases b <;> rfl
theorem a7f (a b : Bool) : re (.bool a) (.bool b) = some (.int .i64 (flag a - flag b)) := by rw [re.ae]; cases a <;> cases b <;> rfl
theorem bft (a b : Bool) : w64 (flag a - flag b) = flag a - flag b := by cases a <;> cases b <;> rfl
def ac5 : List Int → Int
 | [] => 0
 | n :: r => fx n (ac5 r)
theorem al2 (l : List Int) (hl : l.length ≤ 1073741824) : ∀ (d i : Nat), i + d = l.length → kl.l0 (.sl 1 (l.map fun n => [.int .i64 n])) (.int .i64 (l.length : Int)) (.int .i64 (i : Int)) = some (.int .i64 (ac5 (l.drop i)))
 | 0, i, h => by
  rw [kl.ai, List.drop_eq_nil_of_le (by omega)]
  simp [show ¬ (i : Int) < (l.length : Int) by omega, ifF, ac5]
 | d + 1, i, h => by
  have hi : i < l.length := by omega
  have hd : l.drop i = l[i] :: l.drop (i + 1) := List.drop_eq_getElem_cons hi
  rw [kl.ai, hd, decide_eq_true (by omega), ifT, an (x := [.int .i64 l[i]]) (by simp [hi])]
  simp only [mg, bf]
  rw [aj (by omega), al2 l hl d (i + 1) (by omega), ac5]
  unfold fx
  by_cases h0 : l[i] = 0 <;> simp [h0, ifT, ifF]
theorem as3 (l : List Int) (hl : l.length ≤ 1073741824) : kl (.sl 1 (l.map fun n => [.int .i64 n])) = some (.int .i64 (ac5 l)) := by
 rw [kl.ae]
 have := al2 l hl l.length 0 (by omega)
 rw [List.drop_zero] at this
 rw [List.length_map]; exact this
theorem a2b (n : Int) : fx n 0 = n := by unfold fx; split <;> omega
theorem ay7 (a b c : Int) : fx (fx a b) c = fx a (fx b c) := by unfold fx; split <;> (try split) <;> simp_all
theorem dx {fs : List Fd} {i : Nat} {f : Fd} (h : fs[i]? = some f) : (cq fs)[i]? = some (kg f) := by rw [nx, List.getElem?_map, h]; rfl
theorem gm {v : List Tm} {i : Nat} {t : Tm} (h : v[i]? = some t) : (al v)[i]? = some (ao t) := by rw [nw, List.getElem?_map, h]; rfl
theorem pr {fs : List Fd} {i : Nat} {f : Fd} (h : fs[i]? = some f) : 1 + szV f.v ≤ szF fs := by
 induction fs generalizing i with
 | nil => simp at h
 | cons g r ih =>
  obtain ⟨n, v⟩ := g
  rw [szF]
  cases i with
  | zero => simp at h; subst h; simp [Fd.v] <;> omega
  | succ i => have := ih (i := i) (by simpa using h); omega
theorem se {v : List Tm} {i : Nat} {t : Tm} (h : v[i]? = some t) : szT t ≤ szV v := by
 induction v generalizing i with
 | nil => simp at h
 | cons g r ih =>
  rw [szV]
  cases i with
  | zero => simp at h; subst h; omega
  | succ i => have := ih (i := i) (by simpa using h); omega
theorem fw (t : Tm) : szT t = 1 + szF t.fs := by cases t; rfl
theorem a2c {f g : Fd} (h : ma (.agg 1 [.sl 8 (al f.v)]) (.agg 1 [.sl 8 (al g.v)]) = some (.int .i64 (mv f.v g.v))) : aai (.agg 2 (kg f)) (.agg 2 (kg g)) = some (.int .i64 (fx (ru f.n g.n) (mv f.v g.v))) := by
 obtain ⟨n, v⟩ := f
 obtain ⟨m, u⟩ := g
 simp only [Fd.n, Fd.v] at h ⊢
 rw [aai.ae]
 simp only [kg, mg, uu, cf, aw2, ab, bf, frz, h]
 have := as3 [ru n m, mv v u] (by simp)
 simp only [List.map_cons, List.map_nil] at this
 rw [this]
 simp only [ab, bf, ac5, a2b]
theorem ajp (a b : List Fd) (ha : a.length ≤ 1073741824) (h : ∀ f ∈ a, ∀ g ∈ b, ma (.agg 1 [.sl 8 (al f.v)]) (.agg 1 [.sl 8 (al g.v)]) = some (.int .i64 (mv f.v g.v))) :
  ∀ (d i : Nat), i + d = min a.length b.length → fb.l0 (.sl 2 (cq a)) (.sl 2 (cq b)) (.fn 216 []) (.int .i64 ((min a.length b.length : Nat) : Int)) (.int .i64 (i : Int)) = some (.int .i64 (ry (a.drop i) (b.drop i)))
 | 0, i, hi => by
  rw [fb.ai, decide_eq_false (by omega), ifF, an3]
  simp only [ab, bf, cp]
  congr 2
  unfold nv
  rcases Nat.lt_trichotomy a.length b.length with hc | hc | hc
  ·rw [bc (l := a) (by omega), au (l := b) (i := i) (by omega), ry, if_pos (by omega)]
  ·rw [bc (l := a) (by omega), bc (l := b) (by omega), ry, if_neg (by omega), if_neg (by omega)]
  ·rw [bc (l := b) (by omega), au (l := a) (i := i) (by omega), ry, if_neg (by omega), if_pos (by omega)]
 | d + 1, i, hi => by
  have h1 : i < a.length := by omega
  have h2 : i < b.length := by omega
  have e1 : a[i]? = some a[i] := List.getElem?_eq_getElem h1
  have e2 : b[i]? = some b[i] := List.getElem?_eq_getElem h2
  rw [fb.ai, decide_eq_true (by omega), ifT, an (dx e1), an (dx e2)]
  have hf : ah S 216 ([AV.agg 2 (kg a[i]), AV.agg 2 (kg b[i])] ++ []) = _ := a2c (h a[i] (List.getElem_mem h1) b[i] (List.getElem_mem h2))
  rw [hf, aj (by omega), ajp a b ha h d (i + 1) (by omega), au (l := a) h1, au (l := b) h2]
  generalize a[i] = f
  generalize b[i] = g
  obtain ⟨n, v⟩ := f
  obtain ⟨m, u⟩ := g
  rw [ry]
  simp only [Fd.n, Fd.v, ab, bf]
  generalize fx (ru n m) (mv v u) = x
  unfold fx
  by_cases h0 : x = 0 <;> simp [h0, ifT, ifF]
theorem a7g {t u : Tm} (ha : t.fs.length ≤ 1073741824) (h : ∀ f ∈ t.fs, ∀ g ∈ u.fs, ma (.agg 1 [.sl 8 (al f.v)]) (.agg 1 [.sl 8 (al g.v)]) = some (.int .i64 (mv f.v g.v))) : od (.agg 8 (ao t)) (.agg 8 (ao u)) = some (.int .i64 (nr t u)) := by
 have hl := ajp t.fs u.fs ha h (min t.fs.length u.fs.length) 0 (by omega)
 obtain ⟨k, lo, hi, s, a, m, o, fs⟩ := t
 obtain ⟨k', lo', hi', s', a', m', o', fs'⟩ := u
 simp only [Tm.fs, List.drop_zero] at hl
 have hl' : fb (.sl 2 (cq fs)) (.sl 2 (cq fs')) (.fn 216 []) = some (.int .i64 (ry fs fs')) := by
  rw [fb.ae, cp, cp, ← hl]
  congr 2
  omega
 rw [od.ae]
 simp only [ao, mg, uu, bf, cf, bq, jk, an3, aw2, bbl, ab, hl', bft]
 have := as3 [nv k k', nv lo lo', nv hi hi', ru s s', flag a - flag a', flag m - flag m', flag o - flag o', ry fs fs'] (by simp)
 simp only [List.map_cons, List.map_nil] at this
 rw [this]
 simp only [ab, bf, ac5, a2b, nr, Tm.k, Tm.lo, Tm.hi, Tm.s, Tm.a, Tm.m, Tm.o, Tm.fs]
theorem aey (a b : List Tm) (ha : a.length ≤ 1073741824) (h : ∀ t ∈ a, ∀ u ∈ b, od (.agg 8 (ao t)) (.agg 8 (ao u)) = some (.int .i64 (nr t u))) :
  ∀ (d i : Nat), i + d = min a.length b.length → ek.l0 (.sl 8 (al a)) (.sl 8 (al b)) (.fn 169 []) (.int .i64 ((min a.length b.length : Nat) : Int)) (.int .i64 (i : Int)) = some (.int .i64 (mv (a.drop i) (b.drop i)))
 | 0, i, hi => by
  rw [ek.ai, decide_eq_false (by omega), ifF, an3]
  simp only [ab, bf, ct]
  congr 2
  unfold nv
  rcases Nat.lt_trichotomy a.length b.length with hc | hc | hc
  ·rw [bc (l := a) (by omega), au (l := b) (i := i) (by omega), mv, if_pos (by omega)]
  ·rw [bc (l := a) (by omega), bc (l := b) (by omega), mv, if_neg (by omega), if_neg (by omega)]
  ·rw [bc (l := b) (by omega), au (l := a) (i := i) (by omega), mv, if_neg (by omega), if_pos (by omega)]
 | d + 1, i, hi => by
  have h1 : i < a.length := by omega
  have h2 : i < b.length := by omega
  have e1 : a[i]? = some a[i] := List.getElem?_eq_getElem h1
  have e2 : b[i]? = some b[i] := List.getElem?_eq_getElem h2
  rw [ek.ai, decide_eq_true (by omega), ifT, an (gm e1), an (gm e2)]
  have hf : ah S 169 ([AV.agg 8 (ao a[i]), AV.agg 8 (ao b[i])] ++ []) = _ := h a[i] (List.getElem_mem h1) b[i] (List.getElem_mem h2)
  rw [hf, aj (by omega), aey a b ha h d (i + 1) (by omega), au (l := a) h1, au (l := b) h2, mv]
  simp only [ab, bf]
  generalize nr a[i] b[i] = x
  unfold fx
  by_cases h0 : x = 0 <;> simp [h0, ifT, ifF]
theorem aw3 : ∀ (n : Nat), n ≤ 1073741824 → (∀ t u : Tm, szT t ≤ n → od (.agg 8 (ao t)) (.agg 8 (ao u)) = some (.int .i64 (nr t u))) ∧ (∀ a b : List Tm, szV a ≤ n → ma (.agg 1 [.sl 8 (al a)]) (.agg 1 [.sl 8 (al b)]) = some (.int .i64 (mv a b)))
 | 0, _ => by
  have hV : ∀ a b : List Tm, szV a ≤ 0 → ma (.agg 1 [.sl 8 (al a)]) (.agg 1 [.sl 8 (al b)]) = some (.int .i64 (mv a b)) := fun a b ha => by
   have hl := fh a
   obtain rfl : a = [] := List.eq_nil_of_length_eq_zero (by omega)
   have := aey [] b (by simp) (fun t ht => by cases ht) 0 0 (by simp)
   rw [ma.ae]
   simp only [mg, ic]
   rw [ek.ae, ct, ct]
   rw [List.drop_zero, List.drop_zero] at this
   rw [show (min (((([] : List Tm).length : Nat) : Int)) (b.length : Int)) = ((min ([] : List Tm).length b.length : Nat) : Int) by simp <;> omega]
   change (ek.l0 _ _ _ _ (.int .i64 ((0 : Nat) : Int))).bind _ = _
   rw [this]; rfl
  refine ⟨fun t u ht => ?_, hV⟩
  rw [fw] at ht; omega
 | n + 1, hn => by
  obtain ⟨hT, hV⟩ := aw3 n (by omega)
  have hT' : ∀ t u : Tm, szT t ≤ n + 1 → od (.agg 8 (ao t)) (.agg 8 (ao u)) = some (.int .i64 (nr t u)) := fun t u ht => by
   rw [fw] at ht
   have hl := gw t.fs
   refine a7g (by omega) fun f hf g hg => hV f.v g.v ?_
   obtain ⟨i, hi⟩ := List.getElem?_of_mem hf
   have := pr hi
   omega
  refine ⟨hT', fun a b ha => ?_⟩
  have hl := fh a
  have := aey a b (by omega) (fun t ht u hu => hT' t u (by
   obtain ⟨i, hi⟩ := List.getElem?_of_mem ht
   have := se hi
   omega)) (min a.length b.length) 0 (by omega)
  rw [ma.ae]
  simp only [mg, ic]
  rw [ek.ae, ct, ct]
  rw [List.drop_zero, List.drop_zero] at this
  rw [show (min ((a.length : Nat) : Int) (b.length : Int)) = ((min a.length b.length : Nat) : Int) by omega]
  change (ek.l0 _ _ _ _ (.int .i64 ((0 : Nat) : Int))).bind _ = _
  rw [this]; rfl
theorem as4 {t u : Tm} (h : szT t ≤ 1073741824) : od (.agg 8 (ao t)) (.agg 8 (ao u)) = some (.int .i64 (nr t u)) := (aw3 _ (Nat.le_refl _)).1 t u h
end Go.Proofs.YtmdimhcjogjcgaaGreatDoor.Lat
