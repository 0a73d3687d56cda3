/- A value's expression, as lines makes it. -/
import Derived.Test.YtmdimhcjogjcgaaGreatDoorGas
set_option linter.all false
noncomputable section
namespace Go.Proofs.YtmdimhcjogjcgaaGreatDoor.Xp
open Go.Proofs.YtmdimhcjogjcgaaGreatDoor.Abs Go.Proofs.YtmdimhcjogjcgaaGreatDoor.Lat
theorem qp {α : Type} (c : List AV) (k : List AV → Option α) : asC 7 (.agg 7 c) k = k c := rfl
theorem azd {α : Type} (l : List (List AV)) (k : List (List AV) → Option α) : asL 7 (.own 7 l) k = k l := rfl
theorem o6 {α : Type} (a b : AV) (k : AV → AV → Option α) : ja (.tup [a, b]) k = k a b := rfl
theorem h1_ {α : Type} (f : Lat.Fd) (k : AV → Option α) : aa (kg f) 1 k = k (.sl 8 (al f.v)) := by cases f; rfl
theorem h0_ {α : Type} (f : Lat.Fd) (k : AV → Option α) : aa (kg f) 0 k = k (.str f.n) := by cases f; rfl
theorem aa3 (op n : Int) : bh (lf op n) = [AV.int .i64 op, AV.int .i64 n, AV.str [], AV.sl 1 [], AV.sl 8 [], AV.bool false, AV.sl 7 []] := rfl
theorem bfz (s : Bs) : bh (.mk 2 0 s [] [] false []) = [AV.int .i64 2, AV.int .i64 0, AV.str s, AV.sl 1 [], AV.sl 8 [], AV.bool false, AV.sl 7 []] := rfl
theorem akf (t : Tm) (hk : t.k = 1 ∨ t.k = 2 ∨ t.k = 3) : w9 (.agg 8 (ao t)) = some (.own 7 (er (plX t.k t.lo t.hi t.s t.a))) := by
 rw [w9.ae]
 simp only [g0, g1, g2, g3, g4, bf, bq, cf, me.ae, ab, qp]
 generalize t.k = k at *
 generalize t.lo = lo
 generalize t.hi = hi
 generalize t.s = s
 generalize t.a = a
 unfold plX MI
 rcases hk with rfl | rfl | rfl
 ·by_cases h : lo = hi
  ·simp [h, ifB, er, aa3]
  ·simp [h, ifB, er, aa3]
 ·by_cases h : lo = hi
  ·simp [h, ifB, er, aa3]
  ·by_cases h1 : lo = -9007199254740992
   ·by_cases h2 : hi = 9007199254740992
    ·simp [h1, h2, ifB, er, aa3]
    ·subst h1
     simp [h, h2, ifB, er, aa3]
   ·by_cases h2 : hi = 9007199254740992
    ·subst h2
     simp [h, h1, ifB, er, aa3]
    ·simp [h, h1, h2, ifB, er, aa3]
 ·cases a
  ·simp [ifB, er, bfz]
  ·simp [ifB, er, aa3]
def vq : Option Ex → AV
 | some x => .tup [.agg 7 (bh x), .int .i64 0]
 | none => .tup [.agg 7 (bh (lf 0 0)), .int .i64 4]
theorem atv (x : Ex) : vq (some x) = .tup [.agg 7 (bh x), .int .i64 0] := rfl
theorem a7s : vq none = .tup [.agg 7 (bh (lf 0 0)), .int .i64 4] := rfl
def stX (op : Int) (o : Bool) : List AV := [.int .i64 op, .int .i64 0, .str [], .sl 1 [], .sl 8 [], .bool o, .sl 7 []]
def bx0 : AV := .boxv 7 (stX 0 false) [(3, .own 1 []), (4, .own 8 []), (6, .own 7 [])]
theorem afi (n : Bs) (x : Ex) : js [AV.str n, AV.int .i64 0, AV.int .i64 0, AV.str [], AV.sl 1 [], AV.sl 8 [], AV.bool false, AV.sl 7 []] 1 (bh x) = uw (.mk n x) := by cases x; rfl
theorem axl (o : Bool) (fs : List Lat.Fd) (hl : fs.length ≤ 1073741824) (h : ∀ f ∈ fs, ef (.agg 1 [.sl 8 (al f.v)]) = some (vq (j9 f.v))) : ∀ (d i : Nat) (acc : List Pr), i + d = fs.length → acc.length ≤ i →
  da.l0 bx0 (.boxv 7 (stX 10 o) [(4, .own 8 (mh acc)), (3, .own 1 []), (6, .own 7 [])]) (.sl 2 (cq fs)) (.int .i64 (fs.length : Int)) (.int .i64 (i : Int)) =
   some (vq ((ew (fs.drop i)).map fun ps => .mk 10 0 [] [] (acc ++ ps) o []))
 | 0, i, acc, hi, ha => by
  unfold bx0 stX
  rw [da.ql, decide_eq_false (by omega), ifF, bc (by omega), ew]
  simp only [Option.map_some, List.append_nil]
  rfl
 | d + 1, i, acc, hi, ha => by
  have h1 : i < fs.length := by omega
  have e1 : fs[i]? = some fs[i] := List.getElem?_eq_getElem h1
  have hv := h _ (List.getElem_mem h1)
  have hx : ew (fs.drop i) = (j9 fs[i].v).bind fun x => (ew (fs.drop (i + 1))).map fun ps => .mk fs[i].n x :: ps := by
   rw [au h1]
   cases fs[i] with
   | mk n v => rw [ew]; rfl
  have ih := fun x => axl o fs hl h d (i + 1) (acc ++ [.mk fs[i].n x]) (by omega) (by simp; omega)
  unfold bx0 stX at ih ⊢
  rw [da.ql, decide_eq_true (by omega), ifT, an (dx e1), h1_]
  simp only [frz, hv, ab]
  rw [hx]
  cases hq : j9 fs[i].v with
  | none =>
   simp only [vq, o6, qp, bf, Option.bind_none, Option.map_none]
   rfl
  | some x =>
   rw [atv, o6, qp, bf, Option.bind_some, show (!decide ((0 : Int) = 0)) = false from rfl, ifF, h0_, cf, afi, gOK (by rw [kx]; simp; omega), guT, aj (by omega), agf, ih x]
   cases ew (fs.drop (i + 1)) with
   | none => rfl
   | some ps => simp [vq]
theorem a99 (l : List Ex) (h : 1 ≤ l.length) : da.j1 bx0 (.own 7 (er l)) = some (vq (some (vp l))) ∧ da.j1 bx0 (.sl 7 (er l)) = some (vq (some (vp l))) := by
 unfold bx0 stX
 rw [da.mf, da.ac3, fz]
 match l, h with
 | [x], _ => exact ⟨rfl, rfl⟩
 | x :: y :: r, _ =>
  rw [decide_eq_false (by simp only [List.length_cons]; omega), ifF, yy.ae]
  exact ⟨rfl, rfl⟩
theorem aoc (k lo hi : Int) (s : Bs) (a : Bool) : 1 ≤ (plX k lo hi s a).length ∧ (plX k lo hi s a).length ≤ 2 := by
 unfold plX
 split
 ·split <;> exact ⟨by simp, by simp⟩
 ·split
  ·split <;> exact ⟨by simp, by simp⟩
  ·split
   ·exact ⟨by simp, by simp⟩
   ·split
    ·split <;> exact ⟨by simp, by simp⟩
    ·split <;> exact ⟨by simp, by simp⟩
theorem bbv (t : Tm) (hk : 1 ≤ t.k ∧ t.k ≤ 5) (hl : t.fs.length ≤ 1073741824) (h : ∀ f ∈ t.fs, ef (.agg 1 [.sl 8 (al f.v)]) = some (vq (j9 f.v))) : da (.agg 8 (ao t)) = some (vq (gu t)) := by
 have hT : gu t = if t.k = 5 then some (lf 4 5) else if t.k = 4 then (ew t.fs).map fun ps => .mk 10 0 [] [] ps t.o [] else some (vp (if t.m = true then lf 6 0 :: plX t.k t.lo t.hi t.s t.a else plX t.k t.lo t.hi t.s t.a)) := by
  cases t; rw [gu]; rfl
 rw [da.ae, g0, bf, hT]
 by_cases h5 : t.k = 5
 ·rw [decide_eq_true h5, ifT, if_pos h5, me.ae]; rfl
 ·rw [decide_eq_false h5, ifF, if_neg h5]
  by_cases h4 : t.k = 4
  ·rw [decide_eq_true h4, ifT, if_pos h4, g6, bq, g7, jk, cp]
   match hfs : t.fs with
   | [] =>
    rw [da.ai, show (decide ((0 : Int) < (([] : List Lat.Fd).length : Int))) = false from rfl, ifF, ew]
    rfl
   | f :: r =>
    have hh : ∀ f' ∈ t.fs, ef (.agg 1 [.sl 8 (al f'.v)]) = some (vq (j9 f'.v)) := h
    rw [hfs] at hh hl
    have hv := hh f (List.mem_cons_self ..)
    have e0 : (cq (f :: r))[0]? = some (kg f) := by cases f; rfl
    rw [da.ai, decide_eq_true (by simp only [List.length_cons]; omega), ifT, (show ∀ q : List AV → Option AV, idx (cq (f :: r)) 0 q = q (kg f) from fun q => an (j := 0) e0 q), h1_]
    simp only [frz, hv, ab]
    have hx : ew (f :: r) = (j9 f.v).bind fun x => (ew r).map fun ps => .mk f.n x :: ps := by cases f; rw [ew]; rfl
    rw [hx]
    cases hq : j9 f.v with
    | none => rw [a7s]; rfl
    | some x =>
     have ih := axl t.o (f :: r) hl hh r.length 1 [.mk f.n x] (by simp; omega) (by simp)
     unfold bx0 stX at ih
     rw [atv, o6, qp, bf, Option.bind_some, show (!decide ((0 : Int) = 0)) = false from rfl, ifF, h0_, cf, afi, gOK (by simp), guT]
     rw [show ([] : List (List AV)) ++ [uw (.mk f.n x)] = mh [.mk f.n x] from rfl, show w64 ((0 : Int) + 1) = ((1 : Nat) : Int) from rfl]
     refine ih.trans ?_
     rw [List.drop_one, List.tail_cons]
     cases ew r <;> rfl
  ·rw [decide_eq_false h4, ifF, if_neg h4, akf t (by omega), ab, azd, g5, bq]
   have hp := aoc t.k t.lo t.hi t.s t.a
   cases t.m with
   | true =>
    rw [ifT, if_pos rfl, gOK (by rw [fz]; simp; omega), guT]
    exact (a99 (lf 6 0 :: plX t.k t.lo t.hi t.s t.a) (by simp)).1
   | false =>
    rw [ifF, if_neg (by simp)]
    exact (a99 (plX t.k t.lo t.hi t.s t.a) hp.1).2
theorem axm (v : List Tm) (hl : v.length ≤ 1073741824) (h : ∀ t ∈ v, da (.agg 8 (ao t)) = some (vq (gu t))) : ∀ (d i : Nat) (acc : List Ex), i + d = v.length → acc.length ≤ i →
  ef.l0 bx0 (.boxv 7 (stX 12 false) [(6, .own 7 (er acc)), (3, .own 1 []), (4, .own 8 [])]) (.sl 8 (al v)) (.int .i64 (v.length : Int)) (.int .i64 (i : Int)) =
   some (vq ((eh (v.drop i)).map fun l => .mk 12 0 [] [] [] false (acc ++ l)))
 | 0, i, acc, hi, ha => by
  unfold bx0 stX
  rw [ef.ql, decide_eq_false (by omega), ifF, bc (by omega), eh]
  simp only [Option.map_some, List.append_nil]
  rfl
 | d + 1, i, acc, hi, ha => by
  have h1 : i < v.length := by omega
  have e1 : v[i]? = some v[i] := List.getElem?_eq_getElem h1
  have hv := h _ (List.getElem_mem h1)
  have hx : eh (v.drop i) = (gu v[i]).bind fun x => (eh (v.drop (i + 1))).map fun l => x :: l := by
   rw [au h1, eh]
  have ih := fun x => axm v hl h d (i + 1) (acc ++ [x]) (by omega) (by simp; omega)
  unfold bx0 stX at ih ⊢
  rw [ef.ql, decide_eq_true (by omega), ifT, an (gm e1), hv, ab, hx]
  cases hq : gu v[i] with
  | none => rw [a7s]; rfl
  | some x =>
   rw [atv, o6, qp, bf, Option.bind_some, show (!decide ((0 : Int) = 0)) = false from rfl, ifF, gOK (by rw [fz]; simp; omega), guT, aj (by omega), o5, ih x]
   cases eh (v.drop (i + 1)) with
   | none => rfl
   | some l => simp [vq]
theorem a7t (v : List Tm) (hl : v.length ≤ 1073741824) (h : ∀ t ∈ v, da (.agg 8 (ao t)) = some (vq (gu t))) : ef (.agg 1 [.sl 8 (al v)]) = some (vq (j9 v)) := by
 rw [ef.ae]
 simp only [v0, ic, ct]
 match v, hl, h with
 | [], _, _ => rfl
 | [t], _, h =>
  rw [show decide ((([t] : List Tm).length : Int) = 0) = false from rfl, ifF, show decide ((([t] : List Tm).length : Int) = 1) = true from rfl, ifT, ai5, h t (List.mem_cons_self ..), ab, j9]
  cases gu t <;> rfl
 | t :: u :: r, hl, h =>
  have hn : (t :: u :: r).length = r.length + 2 := rfl
  rw [decide_eq_false (by omega), ifF, decide_eq_false (by omega), ifF]
  by_cases h32 : 32 < r.length + 2
  ·rw [decide_eq_true (by omega), ifT, aeh (by omega)]; rfl
  ·rw [decide_eq_false (by omega), ifF, aeg (by omega) (by omega)]
   have e0 : (al (t :: u :: r))[0]? = some (ao t) := gm rfl
   have ih := fun x => axm (t :: u :: r) hl h (r.length + 1) 1 [x] (by omega) (by simp)
   unfold bx0 stX at ih
   rw [ef.ai, decide_eq_true (by omega), ifT, (show ∀ q : List AV → Option AV, idx (al (t :: u :: r)) 0 q = q (ao t) from fun q => an (j := 0) e0 q), h t (List.mem_cons_self ..), ab]
   have hx : ∀ q, eh (t :: q) = (gu t).bind fun x => (eh q).map fun l => x :: l := fun q => by rw [eh]
   rw [hx]
   cases hq : gu t with
   | none => rw [a7s]; rfl
   | some x =>
    rw [atv, o6, qp, bf, Option.bind_some, show (!decide ((0 : Int) = 0)) = false from rfl, ifF, gOK (by simp), guT]
    rw [show ([] : List (List AV)) ++ [bh x] = er [x] from rfl, show w64 ((0 : Int) + 1) = ((1 : Nat) : Int) from rfl]
    refine (ih x).trans ?_
    rw [List.drop_one, List.tail_cons]
    cases eh (u :: r) <;> rfl
inductive KOK : List Tm → Prop where
 | mk (v : List Tm) (h : ∀ t ∈ v, 1 ≤ t.k ∧ t.k ≤ 5) (h' : ∀ t ∈ v, ∀ f ∈ t.fs, KOK f.v) : KOK v
theorem atw (v : List Tm) (hz : szV v ≤ 1073741824) (hk : KOK v) : ef (.agg 1 [.sl 8 (al v)]) = some (vq (j9 v)) := by
 have hlen := fh v
 cases hk with
 | mk _ h h' =>
  refine a7t v (by omega) fun t ht => ?_
  have h1 := gw t.fs
  have h2 := ll (v := v) ht
  rw [fw] at h2
  refine bbv t (h t ht) (by omega) fun f hf => ?_
  have h3 := jt ht hf
  exact atw f.v (by omega) (h' t ht f hf)
termination_by szV v
decreasing_by have := jt ht hf; omega
theorem sf (P : UInt8 → Bool) (h : (List.range 256).all (fun n => P (UInt8.ofNat n)) = true) (c : UInt8) : P c = true := by
 have h1 := List.all_eq_true.1 h c.toNat (List.mem_range.2 c.toNat_lt)
 rwa [UInt8.ofNat_toNat] at h1
def aez : Bs := [48, 49, 50, 51, 52, 53, 54, 55, 56, 57, 97, 98, 99, 100, 101, 102]
theorem q34 (c : UInt8) : decide (((c.toNat : Int) : Int) = 34) = decide (c = 34) := by simpa using sf (fun c => decide (((c.toNat : Int) : Int) = 34) == decide (c = 34)) (by decide +kernel) c
theorem q92 (c : UInt8) : decide (((c.toNat : Int) : Int) = 92) = decide (c = 92) := by simpa using sf (fun c => decide (((c.toNat : Int) : Int) = 92) == decide (c = 92)) (by decide +kernel) c
theorem q10 (c : UInt8) : decide (((c.toNat : Int) : Int) = 10) = decide (c = 10) := by simpa using sf (fun c => decide (((c.toNat : Int) : Int) = 10) == decide (c = 10)) (by decide +kernel) c
theorem q32 (c : UInt8) : decide (((c.toNat : Int) : Int) < 32) = decide (c < 32) := by simpa using sf (fun c => decide (((c.toNat : Int) : Int) < 32) == decide (c < 32)) (by decide +kernel) c
theorem bf0 (c : UInt8) : decide ((126 : Int) < (c.toNat : Int)) = decide (126 < c) := by simpa using sf (fun c => decide ((126 : Int) < (c.toNat : Int)) == decide (126 < c)) (by decide +kernel) c
theorem hx1 (c : UInt8) : aez[(Int.fdiv (c.toNat : Int) (2 ^ (min (4 : Int).toNat (IntKind.bits .u8)))).toNat]? = some (y9 (c / 16)) := by
 simpa using sf (fun c => aez[(Int.fdiv (c.toNat : Int) (2 ^ (min (4 : Int).toNat (IntKind.bits .u8)))).toNat]? == some (y9 (c / 16))) (by decide +kernel) c
theorem hx2 (c : UInt8) : aez[(abp .and .u8 (c.toNat : Int) 15).toNat]? = some (y9 (c % 16)) := by
 simpa using sf (fun c => aez[(abp .and .u8 (c.toNat : Int) 15).toNat]? == some (y9 (c % 16))) (by decide +kernel) c
theorem hp1 (c : UInt8) : decide ((0 : Int) ≤ Int.fdiv (c.toNat : Int) (2 ^ (min (4 : Int).toNat (IntKind.bits .u8)))) = true := sf (fun c => decide ((0 : Int) ≤ Int.fdiv (c.toNat : Int) (2 ^ (min (4 : Int).toNat (IntKind.bits .u8))))) (by decide +kernel) c
theorem hp2 (c : UInt8) : decide ((0 : Int) ≤ abp .and .u8 (c.toNat : Int) 15) = true := sf (fun c => decide ((0 : Int) ≤ abp .and .u8 (c.toNat : Int) 15)) (by decide +kernel) c
theorem bf1 {β α : Type} {l : List β} {n : Int} {x : β} (h0 : decide ((0 : Int) ≤ n) = true) (h : l[n.toNat]? = some x) (k : β → Option α) : idx l n k = k x := by
 unfold idx
 rw [h0, h]; rfl
def ac9 (s : Bs) : List (List AV) := s.map fun b => [AV.int .u8 (b.toNat : Int)]
theorem ada (s : Bs) : (ac9 s).length = s.length := List.length_map ..
theorem agi (a b : Bs) : ac9 a ++ ac9 b = ac9 (a ++ b) := by simp [ac9]
theorem ajs : ∀ s : Bs, bytesOf (ac9 s) = some s
 | [] => rfl
 | b :: r => by
  show (match bytesOf (ac9 r) with | some l => some (UInt8.ofNat (b.toNat : Int).toNat :: l) | none => none) = _
  rw [ajs r]
  simp
theorem atx (c : UInt8) : (qc c).length ≤ 4 := by
 unfold qc
 split
 ·simp
 ·split
  ·simp
  ·split <;> simp
theorem axn (s : Bs) (hs : s.length ≤ 1048576) : ∀ (d i : Nat) (acc : Bs), i + d = s.length → acc.length ≤ 1 + 4 * i →
  gy.l0 (.str s) (.own 1 (ac9 acc)) (.int .i64 (s.length : Int)) (.int .i64 (i : Int)) = some (.str (acc ++ ((s.drop i).flatMap qc ++ [34])))
 | 0, i, acc, hi, ha => by
  rw [gy.ai, decide_eq_false (by omega), ifF, gOK (by rw [ada]; simp; omega), guT, show ac9 acc ++ [[AV.int .u8 34]] = ac9 (acc ++ [34]) from by simp [ac9], bc (by omega)]
  unfold tq
  rw [ajs]
  simp
 | d + 1, i, acc, hi, ha => by
  have h1 : i < s.length := by omega
  have e1 : s[i]? = some s[i] := List.getElem?_eq_getElem h1
  have hq := atx s[i]
  have ih := axn s hs d (i + 1) (acc ++ qc s[i]) (by omega) (by rw [List.length_append]; omega)
  rw [au h1, List.flatMap_cons]
  rw [show acc ++ (qc s[i] ++ (s.drop (i + 1)).flatMap qc ++ [34]) = acc ++ qc s[i] ++ ((s.drop (i + 1)).flatMap qc ++ [34]) by simp, ← ih]
  rw [gy.ai, decide_eq_true (by omega), ifT, an e1, q34, q92, q10, q32, bf0]
  generalize s[i] = c
  have hx1' := bf1 (α := AV) (hp1 c) (hx1 c)
  have hx2' := bf1 (α := AV) (hp2 c) (hx2 c)
  unfold aez at hx1' hx2'
  by_cases c1 : c = 34 ∨ c = 92
  ·have hb : (ifB (decide (c = 34)) (some true) (some (decide (c = 92)))) = some true := by
    rcases c1 with h | h
    ·rw [decide_eq_true h]; rfl
    ·rw [decide_eq_true h]; cases decide (c = 34) <;> rfl
   rw [hb, ab, ifT, gOK (by rw [ada]; simp; omega), guT, aj (by omega), show qc c = [92, c] by unfold qc; rw [if_pos c1]]
   rw [← agi]; rfl
  ·have hn := not_or.1 c1
   rw [decide_eq_false hn.1, ifF, decide_eq_false hn.2, ab, ifF]
   by_cases c2 : c = 10
   ·rw [decide_eq_true c2, ifT, gOK (by rw [ada]; simp; omega), guT, aj (by omega), show qc c = [92, 110] by unfold qc; rw [if_neg c1, if_pos c2]]
    rw [← agi]; rfl
   ·rw [decide_eq_false c2, ifF]
    by_cases c3 : c < 32 ∨ 126 < c
    ·have hb : (ifB (decide (c < 32)) (some true) (some (decide (126 < c)))) = some true := by
      rcases c3 with h | h
      ·rw [decide_eq_true h]; rfl
      ·rw [decide_eq_true h]; cases decide (c < 32) <;> rfl
     rw [hb, ab, ifT, show decide ((0 : Int) ≤ 4) = true from rfl, guT, hx1', hx2', gOK (by rw [ada]; simp; omega), guT, aj (by omega), show qc c = [92, 120, y9 (c / 16), y9 (c % 16)] by unfold qc; rw [if_neg c1, if_neg c2, if_pos c3]]
     rw [← agi]; rfl
    ·have hn := not_or.1 c3
     rw [decide_eq_false hn.1, ifF, decide_eq_false hn.2, ab, ifF, gOK (by rw [ada]; simp; omega), guT, aj (by omega), show qc c = [c] by unfold qc; rw [if_neg c1, if_neg c2, if_neg c3]]
     rw [← agi]; rfl
theorem a7u (s : Bs) (hs : s.length ≤ 1048576) : gy (.str s) = some (.str (aa2 s)) := by
 rw [gy.ae]
 have := axn s hs s.length 0 [34] (by omega) (by simp)
 rw [List.drop_zero] at this
 exact this
theorem bmk (c : UInt8) : w64 ((c.toNat : Int)) = (c.toNat : Int) := by
 have := c.toNat_lt
 exact qm (by omega)
theorem hd1 (c : UInt8) : w64 (Int.tdiv ((c.toNat : Int)) 16) = ((c / 16).toNat : Int) := by simpa using sf (fun c => decide (w64 (Int.tdiv ((c.toNat : Int)) 16) = ((c / 16).toNat : Int))) (by decide +kernel) c
theorem hd2 (c : UInt8) : Int.tmod ((c.toNat : Int)) 16 = ((c % 16).toNat : Int) := by simpa using sf (fun c => decide (Int.tmod ((c.toNat : Int)) 16 = ((c % 16).toNat : Int))) (by decide +kernel) c
theorem hg1 (c : UInt8) : aez[(c / 16).toNat]? = some (y9 (c / 16)) := by simpa using sf (fun c => aez[(c / 16).toNat]? == some (y9 (c / 16))) (by decide +kernel) c
theorem hg2 (c : UInt8) : aez[(c % 16).toNat]? = some (y9 (c % 16)) := by simpa using sf (fun c => aez[(c % 16).toNat]? == some (y9 (c % 16))) (by decide +kernel) c
theorem a7v {β α : Type} {l : List β} {n : Nat} {x : β} (h : l[n]? = some x) (hn : n < 9223372036854775807) (k : List β → Option α) : cut l (n : Int) (w64 ((n : Int) + 1)) k = k [x] := by
 obtain ⟨h1, h2⟩ := List.getElem?_eq_some_iff.1 h
 rw [aj hn]
 unfold cut
 rw [decide_eq_true (by omega), decide_eq_true (by omega), decide_eq_true (by omega)]
 show k ((l.take ((n + 1 : Nat) : Int).toNat).drop (n : Int).toNat) = _
 rw [Int.toNat_natCast, Int.toNat_natCast]
 congr 1
 rw [List.drop_take, Nat.add_sub_cancel_left, List.drop_eq_getElem_cons h1, h2]
 rfl
theorem gS {n m : Nat} (h : n + m ≤ 1073741824) : Nat.ble (n + m) lim = true := by rw [Nat.ble_eq]; unfold lim; omega
theorem baa (s : Bs) (hs : s.length ≤ 1048576) : ∀ (d i : Nat) (acc : Bs), i + d = s.length → acc.length ≤ 1 + 4 * i →
  gi.l0 (.str s) (.str aez) (.str acc) (.int .i64 (i : Int)) = some (.str (acc ++ ((s.drop i).flatMap qc ++ [34])))
 | 0, i, acc, hi, ha => by
  rw [gi.ai, decide_eq_false (by omega), ifF, gS (by simp; omega), guT, bc (by omega)]
  rfl
 | d + 1, i, acc, hi, ha => by
  have h1 : i < s.length := by omega
  have e1 : s[i]? = some s[i] := List.getElem?_eq_getElem h1
  have hq := atx s[i]
  have ih := baa s hs d (i + 1) (acc ++ qc s[i]) (by omega) (by rw [List.length_append]; omega)
  rw [au h1, List.flatMap_cons]
  rw [show acc ++ (qc s[i] ++ (s.drop (i + 1)).flatMap qc ++ [34]) = acc ++ qc s[i] ++ ((s.drop (i + 1)).flatMap qc ++ [34]) by simp, ← ih]
  have hcut := fun (k : Bs → Option AV) => a7v e1 (by omega) k
  rw [gi.ai, decide_eq_true (by omega), ifT, an e1]
  simp only [bmk, hcut]
  rw [q34, q92, q10, q32, bf0]
  generalize s[i] = c
  have hc1 := fun (k : Bs → Option AV) => a7v (hg1 c) (by have := (c / 16).toNat_lt; omega) k
  have hc2 := fun (k : Bs → Option AV) => a7v (hg2 c) (by have := (c % 16).toNat_lt; omega) k
  by_cases c1 : c = 34 ∨ c = 92
  ·have hb : (ifB (decide (c = 34)) (some true) (some (decide (c = 92)))) = some true := by
    rcases c1 with h | h
    ·rw [decide_eq_true h]; rfl
    ·rw [decide_eq_true h]; cases decide (c = 34) <;> rfl
   rw [hb, ab, ifT, gS (by simp; omega), guT, gS (by simp; omega), guT, aj (by omega), show qc c = [92, c] by unfold qc; rw [if_pos c1]]
   simp
  ·have hn := not_or.1 c1
   rw [decide_eq_false hn.1, ifF, decide_eq_false hn.2, ab, ifF]
   by_cases c2 : c = 10
   ·rw [decide_eq_true c2, ifT, gS (by simp; omega), guT, aj (by omega), show qc c = [92, 110] by unfold qc; rw [if_neg c1, if_pos c2]]
   ·rw [decide_eq_false c2, ifF]
    by_cases c3 : c < 32 ∨ 126 < c
    ·have hb : (ifB (decide (c < 32)) (some true) (some (decide (126 < c)))) = some true := by
      rcases c3 with h | h
      ·rw [decide_eq_true h]; rfl
      ·rw [decide_eq_true h]; cases decide (c < 32) <;> rfl
     rw [hb, ab, ifT, gS (by simp; omega), guT]
     simp only [hd1, hd2, hc1, hc2]
     rw [gS (by simp; omega), guT, gS (by simp; omega), guT, aj (by omega), show qc c = [92, 120, y9 (c / 16), y9 (c % 16)] by unfold qc; rw [if_neg c1, if_neg c2, if_pos c3]]
     simp
    ·have hn := not_or.1 c3
     rw [decide_eq_false hn.1, ifF, decide_eq_false hn.2, ab, ifF, gS (by simp; omega), guT, aj (by omega), show qc c = [c] by unfold qc; rw [if_neg c1, if_neg c2, if_neg c3]]
theorem bf2 (s : Bs) (hs : s.length ≤ 1048576) : gi (.str s) = some (.str (aa2 s)) := by
 rw [gi.ae]
 have := baa s hs s.length 0 [34] (by omega) (by simp)
 rw [List.drop_zero] at this
 exact this
theorem aze (lo hi : Int) (s : Bs) (a : Bool) : tw (.int .i64 lo) (.int .i64 hi) = some (.agg 7 (bh (vp (plX 2 lo hi s a)))) := by
 rw [tw.ae]
 unfold plX MI
 by_cases h : lo = hi
 ·rw [decide_eq_true h, ifT, if_neg (by decide), if_neg (by decide), if_pos h]; rfl
 ·rw [decide_eq_false h, ifF, if_neg (by decide), if_neg (by decide), if_neg h]
  by_cases h1 : lo = -9007199254740992
  ·rw [decide_eq_true h1, ifT, ab, if_pos h1]
   by_cases h2 : hi = 9007199254740992
   ·rw [decide_eq_true h2, ifT, if_pos h2]; rfl
   ·rw [decide_eq_false h2, ifF, ifT, if_neg h2]; rfl
  ·rw [decide_eq_false h1, ifF, ab, ifF, ifF, if_neg h1]
   by_cases h2 : hi = 9007199254740992
   ·rw [decide_eq_true h2, ifT, if_pos h2]; rfl
   ·rw [decide_eq_false h2, ifF, if_neg h2]; rfl
def lbx (op n : Int) (s : Bs) : AV := .boxv 7 [.int .i64 op, .int .i64 n, .str s, .sl 1 [], .sl 8 [], .bool false, .sl 7 []] [(3, .own 1 []), (4, .own 8 []), (6, .own 7 [])]
theorem j2L (t : Tm) (op n : Int) (s : Bs) (h : ¬ op = 11) : bp.j2 (.boxv 8 (ao t) []) bx0 (lbx op n s) =
  some (.agg 7 (bh (vp (if t.m = true then [lf 6 0, .mk op n s [] [] false []] else [.mk op n s [] [] false []])))) := by
 unfold bx0 stX lbx
 rw [bp.af9, g5, bq]
 cases t.m with
 | false => rfl
 | true => rw [Bool.not_true, ifF, decide_eq_false h, ifF]; rfl
theorem j2V (t : Tm) (lo hi : Int) (s : Bs) (a : Bool) : bp.j2 (.boxv 8 (ao t) []) bx0 (.boxv 7 (bh (vp (plX 2 lo hi s a))) []) =
  some (.agg 7 (bh (vp (if t.m = true then lf 6 0 :: plX 2 lo hi s a else plX 2 lo hi s a)))) := by
 unfold bx0 stX
 rw [bp.bfs, g5, bq]
 cases t.m with
 | false => rfl
 | true =>
  rw [Bool.not_true, ifF, if_pos rfl]
  have hp : (∃ x, plX 2 lo hi s a = [x] ∧ ¬ x.op = 11) ∨ ∃ x y, plX 2 lo hi s a = [x, y] := by
   unfold plX
   rw [if_neg (by decide), if_neg (by decide)]
   split
   ·exact .inl ⟨_, rfl, by show ¬ (1 : Int) = 11; decide⟩
   ·split
    ·split
     ·exact .inl ⟨_, rfl, by show ¬ (4 : Int) = 11; decide⟩
     ·exact .inl ⟨_, rfl, by show ¬ (8 : Int) = 11; decide⟩
    ·split
     ·exact .inl ⟨_, rfl, by show ¬ (7 : Int) = 11; decide⟩
     ·exact .inr ⟨_, _, rfl⟩
  rcases hp with ⟨x, e, hx⟩ | ⟨x, y, e⟩
  ·rw [e, show vp [x] = x from rfl, x0, bf, decide_eq_false hx, ifF]
   rfl
  ·rw [e, show vp [x, y] = .mk 11 0 [] [] [] false [x, y] from rfl, x0, bf, show (decide ((Ex.mk 11 0 [] [] [] false [x, y]).op = 11)) = true from rfl, ifT, x6, y8]
   rfl
theorem ajt (t : Tm) (hk : t.k = 1 ∨ t.k = 2 ∨ t.k = 3) : bp (.agg 8 (ao t)) = some (.agg 7 (bh (vp (if t.m = true then lf 6 0 :: plX t.k t.lo t.hi t.s t.a else plX t.k t.lo t.hi t.s t.a)))) := by
 rw [bp.ae, g0, bf, g0, bf]
 have k0 := j2L t
 have k2 := j2V t
 unfold bx0 stX lbx at k0
 unfold bx0 stX at k2
 rcases hk with h | h | h
 ·rw [h, show decide ((1 : Int) = 2) = false from rfl, ifF, bp.aho, g0, bf, h, show decide ((1 : Int) = 1) = true from rfl, ifT, g1, bf, g2, bf, ab]
  by_cases hl : t.lo = t.hi
  ·have hR : plX 1 t.lo t.hi t.s t.a = [lf 3 t.lo] := by unfold plX; rw [if_neg (by decide), if_pos rfl, if_pos hl]
   rw [decide_eq_true hl, ifT, g1, bf, bp.mf, g0, bf, h, show decide ((1 : Int) = 3) = false from rfl, ifF, ab, ifF, hR]
   exact k0 3 t.lo [] (by decide)
  ·have hR : plX 1 t.lo t.hi t.s t.a = [lf 4 1] := by unfold plX; rw [if_neg (by decide), if_pos rfl, if_neg hl]
   rw [decide_eq_false hl, ifF, bp.mf, g0, bf, h, show decide ((1 : Int) = 3) = false from rfl, ifF, ab, ifF, hR]
   exact k0 4 1 [] (by decide)
 ·rw [h, show decide ((2 : Int) = 2) = true from rfl, ifT, g1, bf, g2, bf, aze t.lo t.hi t.s t.a, ab, qp, bp.wh, g0, bf, h, show decide ((2 : Int) = 1) = false from rfl, ifF, ab, ifF, bp.ac3, g0, bf, h, show decide ((2 : Int) = 3) = false from rfl, ifF, ab, ifF]
  exact k2 t.lo t.hi t.s t.a
 ·rw [h, show decide ((3 : Int) = 2) = false from rfl, ifF, bp.aho, g0, bf, h, show decide ((3 : Int) = 1) = false from rfl, ifF, ab, ifF, bp.mf, g0, bf, h, show decide ((3 : Int) = 3) = true from rfl, ifT, g4, bq, ab]
  cases ha : t.a with
  | true =>
   have hR : plX 3 t.lo t.hi t.s true = [lf 4 3] := rfl
   rw [Bool.not_true, ifF, hR]
   exact k0 4 3 [] (by decide)
  | false =>
   have hR : plX 3 t.lo t.hi t.s false = [.mk 2 0 t.s [] [] false []] := rfl
   rw [Bool.not_false, ifT, g3, cf, hR]
   exact k0 2 0 t.s (by decide)
def jd (e : Ex) : List Ex := if e.op = 10 then e.ps.map Pr.e else e.ks
section
variable {α : Type}
theorem z1 (p : Pr) (k : AV → Option α) : aa (uw p) 1 k = k (.int .i64 p.e.op) := by cases p with | mk n e => cases e; rfl
theorem z2 (p : Pr) (k : AV → Option α) : aa (uw p) 2 k = k (.int .i64 p.e.n) := by cases p with | mk n e => cases e; rfl
theorem z3 (p : Pr) (k : AV → Option α) : aa (uw p) 3 k = k (.str p.e.s) := by cases p with | mk n e => cases e; rfl
theorem z4 (p : Pr) (k : AV → Option α) : aa (uw p) 4 k = k (.sl 1 (ar p.e.p)) := by cases p with | mk n e => cases e; rfl
theorem z5 (p : Pr) (k : AV → Option α) : aa (uw p) 5 k = k (.sl 8 (mh p.e.ps)) := by cases p with | mk n e => cases e; rfl
theorem z6 (p : Pr) (k : AV → Option α) : aa (uw p) 6 k = k (.bool p.e.o) := by cases p with | mk n e => cases e; rfl
theorem z7 (p : Pr) (k : AV → Option α) : aa (uw p) 7 k = k (.sl 7 (er p.e.ks)) := by cases p with | mk n e => cases e; rfl
end
theorem adb (e : Ex) : [AV.int .i64 e.op, AV.int .i64 e.n, AV.str e.s, AV.sl 1 (ar e.p), AV.sl 8 (mh e.ps), AV.bool e.o, AV.sl 7 (er e.ks)] = bh e := by cases e; rfl
theorem aty (ps : List Pr) (hl : ps.length ≤ 1073741824) : ∀ (d i : Nat) (acc : List Ex), i + d = ps.length → acc.length ≤ i → km.l0 (.own 7 (er acc)) (.sl 8 (mh ps)) (.int .i64 (ps.length : Int)) (.int .i64 (i : Int)) = some (.own 7 (er (acc ++ (ps.drop i).map Pr.e)))
 | 0, i, acc, hi, ha => by rw [km.ai, decide_eq_false (by omega), ifF, bc (by omega), List.map_nil, List.append_nil]
 | d + 1, i, acc, hi, ha => by
  have h1 : i < ps.length := by omega
  have e1 : ps[i]? = some ps[i] := List.getElem?_eq_getElem h1
  have ih := aty ps hl d (i + 1) (acc ++ [ps[i].e]) (by omega) (by simp; omega)
  rw [km.ai, decide_eq_true (by omega), ifT, an (tg e1)]
  simp only [z1, z2, z3, z4, z5, z6, z7, frz, adb]
  rw [gOK (by rw [fz]; simp; omega), guT, aj (by omega), o5, ih, au h1, List.map_cons, List.append_assoc, List.singleton_append]
theorem apy (e : Ex) (hz : szE e ≤ 1073741824) : ∃ r, km (.agg 7 (bh e)) = some r ∧ ∀ (α : Type) (k : List (List AV) → Option α), asL 7 r k = k (er (jd e)) := by
 rw [km.ae, x0, bf]
 unfold jd
 by_cases h : e.op = 10
 ·rw [decide_eq_true h, Bool.not_true, ifF, x4, xm, if_pos h, kx]
  have hl : e.ps.length ≤ 1073741824 := by
   have := agh e.ps
   cases e with | mk op n s p ps o ks => have : szE (.mk op n s p ps o ks) = 1 + vo ps + tj ks := rfl; simp only [Ex.ps] at *; omega
  refine ⟨_, aty e.ps hl e.ps.length 0 [] (by omega) (by simp), fun α k => ?_⟩
  rw [azd, List.drop_zero, List.nil_append]
 ·rw [decide_eq_false h, Bool.not_false, ifT, x6, y8, if_neg h]
  exact ⟨_, rfl, fun α k => rfl⟩
theorem atz (e : Ex) (hl : e.ps.length ≤ 1073741824) : ∀ (d i : Nat) (acc : List Ex), i + d = e.ps.length → acc.length ≤ i → j5.l0 (.boxv 7 (bh e) []) (.own 7 (er acc)) (.int .i64 (i : Int)) = some (.own 7 (er (acc ++ (e.ps.drop i).map Pr.e)))
 | 0, i, acc, hi, ha => by rw [j5.ai, x4, xm, kx, decide_eq_false (by omega), ifF, bc (by omega), List.map_nil, List.append_nil]
 | d + 1, i, acc, hi, ha => by
  have h1 : i < e.ps.length := by omega
  have e1 : e.ps[i]? = some e.ps[i] := List.getElem?_eq_getElem h1
  have ih := atz e hl d (i + 1) (acc ++ [e.ps[i].e]) (by omega) (by simp; omega)
  rw [j5.ai, x4, xm, kx, decide_eq_true (by omega), ifT, x4, xm, an (tg e1)]
  simp only [z1, z2, z3, z4, z5, z6, z7, adb]
  rw [gOK (by rw [fz]; simp; omega), guT, aj (by omega), o5, ih, au h1, List.map_cons, List.append_assoc, List.singleton_append]
theorem a2u (e : Ex) (hz : szE e ≤ 1073741824) : ∃ r, j5 (.agg 7 (bh e)) = some r ∧ ∀ (α : Type) (k : List (List AV) → Option α), asL 7 r k = k (er (jd e)) := by
 rw [j5.ae, x0, bf]
 unfold jd
 by_cases h : e.op = 10
 ·rw [decide_eq_true h, Bool.not_true, ifF, if_pos h]
  have hl : e.ps.length ≤ 1073741824 := by
   have := agh e.ps
   cases e with | mk op n s p ps o ks => have : szE (.mk op n s p ps o ks) = 1 + vo ps + tj ks := rfl; simp only [Ex.ps] at *; omega
  refine ⟨_, atz e hl e.ps.length 0 [] (by omega) (by simp), fun α k => ?_⟩
  rw [azd, List.drop_zero, List.nil_append]
 ·rw [decide_eq_false h, Bool.not_false, ifT, x6, y8, if_neg h]
  exact ⟨_, rfl, fun α k => rfl⟩
theorem agj {e k : Ex} (h : k ∈ jd e) : szE k < szE e := by
 unfold jd at h
 split at h
 ·obtain ⟨p, hp, rfl⟩ := List.mem_map.1 h
  exact ame hp
 ·exact amd h
theorem aei (e : Ex) : (jd e).length < szE e := by
 cases e with
 | mk op n s p ps o ks =>
  have h1 := agh ps
  have h2 := ats ks
  unfold jd
  rw [szE]
  split
  ·rw [List.length_map]; show ps.length < _; omega
  ·show ks.length < _; omega
def mxD : List Ex → Nat
 | [] => 0
 | e :: r => max (dpE e) (mxD r)
theorem axo : ∀ l : List Ex, akk l = mxD l
 | [] => rfl
 | e :: r => by rw [akk, mxD, axo r]
theorem axp : ∀ l : List Pr, akl l = mxD (l.map Pr.e)
 | [] => rfl
 | .mk n e :: r => by rw [akl, List.map_cons, mxD, axp r]; rfl
theorem ahr (e : Ex) : dpE e = 1 + mxD (jd e) := by
 cases e with
 | mk op n s p ps o ks =>
  rw [dpE]
  unfold jd
  show 1 + (if op = 10 then akl ps else akk ks) = 1 + mxD (if op = 10 then ps.map Pr.e else ks)
  split
  ·rw [axp]
  ·rw [axo]
mutual
theorem at0 : ∀ e : Ex, dpE e ≤ szE e
 | .mk op n s p ps o ks => by
  have h1 := axr ps
  have h2 := axq ks
  rw [dpE, szE]
  split <;> omega
theorem axq : ∀ l : List Ex, akk l ≤ tj l
 | [] => Nat.le_refl _
 | e :: r => by have h1 := at0 e; have h2 := axq r; rw [akk, tj]; omega
theorem axr : ∀ l : List Pr, akl l ≤ vo l
 | [] => Nat.le_refl _
 | .mk n e :: r => by have h1 := at0 e; have h2 := axr r; rw [akl, vo]; omega
end
theorem a2v (e : Ex) : mxD (jd e) < szE e := by
 have h1 := at0 e
 rw [ahr] at h1
 omega
theorem a2w (l : List Ex) (hl : l.length ≤ 1073741824) (h : ∀ x ∈ l, jq (.agg 7 (bh x)) = some (.int .i64 (dpE x : Nat))) : ∀ (d i : Nat) (m : Nat), i + d = l.length → max m (mxD (l.drop i)) ≤ 2147483648 →
  jq.l0 (.int .i64 (m : Int)) (.sl 7 (er l)) (.int .i64 (l.length : Int)) (.int .i64 (i : Int)) = some (.int .i64 ((1 + max m (mxD (l.drop i)) : Nat) : Int))
 | 0, i, m, hi, hm => by
  rw [jq.ai, decide_eq_false (by omega), ifF, bc (by omega), aj (by omega)]
  show some (AV.int .i64 ((m + 1 : Nat) : Int)) = _
  rw [mxD, Nat.max_zero, Nat.add_comm]
 | d + 1, i, m, hi, hm => by
  have h1 : i < l.length := by omega
  have e1 : l[i]? = some l[i] := List.getElem?_eq_getElem h1
  rw [au h1, mxD] at hm
  have ih := a2w l hl h d (i + 1) (max m (dpE l[i])) (by omega) (by omega)
  rw [jq.ai, decide_eq_true (by omega), ifT, an (ph e1), h _ (List.getElem_mem h1), ab, bf, aj (by omega), show max (m : Int) ((dpE l[i] : Nat) : Int) = ((max m (dpE l[i]) : Nat) : Int) by omega, ih, au h1, mxD, Nat.max_assoc]
theorem apz (e : Ex) (hz : szE e ≤ 1073741824) : jq (.agg 7 (bh e)) = some (.int .i64 (dpE e : Nat)) := by
 obtain ⟨r, hr, hk⟩ := apy e hz
 have h1 := aei e
 have h2 := a2v e
 rw [jq.ae, hr, ab, hk, fz]
 have := a2w (jd e) (by omega) (fun x hx => by have := agj hx; exact apz x (by omega)) (jd e).length 0 0 (by omega) (by rw [List.drop_zero]; omega)
 rw [List.drop_zero, Nat.zero_max, ← ahr] at this
 exact this
termination_by szE e
theorem a2x (l : List Ex) (hl : l.length ≤ 1073741824) (h : ∀ x ∈ l, gz (.agg 7 (bh x)) = some (.int .i64 (dpE x : Nat))) : ∀ (d i : Nat) (m : Nat), i + d = l.length → max m (mxD (l.drop i)) ≤ 2147483648 →
  gz.l0 (.int .i64 (m : Int)) (.sl 7 (er l)) (.int .i64 (i : Int)) = some (.int .i64 ((1 + max m (mxD (l.drop i)) : Nat) : Int))
 | 0, i, m, hi, hm => by
  rw [gz.ai, fz, decide_eq_false (by omega), ifF, bc (by omega), Int.add_comm, aj (by omega)]
  rw [mxD, Nat.max_zero, Nat.add_comm]
 | d + 1, i, m, hi, hm => by
  have h1 : i < l.length := by omega
  have e1 : l[i]? = some l[i] := List.getElem?_eq_getElem h1
  rw [au h1, mxD] at hm
  have ih := fun m' hm' => a2x l hl h d (i + 1) m' (by omega) hm'
  rw [gz.ai, fz, decide_eq_true (by omega), ifT, an (ph e1), h _ (List.getElem_mem h1), ab, bf, aj (by omega), au h1, mxD]
  by_cases hlt : m < dpE l[i]
  ·rw [decide_eq_true (by omega), ifT, ih _ (by omega)]
   congr 3; omega
  ·rw [decide_eq_false (by omega), ifF, ih _ (by omega)]
   congr 3; omega
theorem ap0 (e : Ex) (hz : szE e ≤ 1073741824) : gz (.agg 7 (bh e)) = some (.int .i64 (dpE e : Nat)) := by
 obtain ⟨r, hr, hk⟩ := a2u e hz
 have h1 := aei e
 have h2 := a2v e
 rw [gz.ae, hr, ab, hk]
 have := a2x (jd e) (by omega) (fun x hx => by have := agj hx; exact ap0 x (by omega)) (jd e).length 0 0 (by omega) (by rw [List.drop_zero]; omega)
 rw [List.drop_zero, Nat.zero_max, ← ahr] at this
 exact this
termination_by szE e
end Go.Proofs.YtmdimhcjogjcgaaGreatDoor.Xp
