/- The document's expression of a value: Of. -/
import Derived.Test.YtmdimhcjogjcgaaGreatDoorGau
import Derived.Test.YtmdimhcjogjcgaaGreatDoorGar
import Derived.Lib.ItoaLen
import Derived.Lib.ItoaMem
set_option linter.all false
noncomputable section
namespace Go.Proofs.YtmdimhcjogjcgaaGreatDoor.Xp
open Go.Proofs.YtmdimhcjogjcgaaGreatDoor.Abs Go.Proofs.YtmdimhcjogjcgaaGreatDoor.Lat
def OfR (v : List Tm) : Prop := ∃ x, ax (.agg 1 [.sl 8 (al v)]) = some (.tup [.agg 7 (bh x), .bool (j9 v).isSome]) ∧ ∀ y, j9 v = some y → x = y
def bv (v : List Tm) : AV := .boxv 1 [.sl 8 (al v)] []
def o1 : AV := .boxv 7 (stX 12 false) [(3, .own 1 []), (4, .own 8 []), (6, .own 7 [])]
def o2 (ks : List Ex) : AV := .boxv 7 (stX 12 false) [(6, .own 7 (er ks)), (3, .own 1 []), (4, .own 8 [])]
def noX : Option AV := some (.tup [.agg 7 (bh (lf 0 0)), .bool false])
def nxt (v : List Tm) (ks : List Ex) (i : Nat) : Option Ex → Option AV
 | none => noX
 | some x => ax.l0 (bv v) bx0 (o2 (ks ++ [x])) (.int .i64 ((i + 1 : Nat) : Int))
theorem gc0 {α : Type} (x : AV) (k : AV → Option α) : aa [x] 0 k = k x := rfl
theorem at5 (t : Tm) : gu t = if t.k = 5 then some (lf 4 5) else if t.k = 4 then (ew t.fs).map fun ps => .mk 10 0 [] [] ps t.o [] else some (vp (if t.m = true then lf 6 0 :: plX t.k t.lo t.hi t.s t.a else plX t.k t.lo t.hi t.s t.a)) := by
 cases t; rw [gu]; rfl
theorem aan (f : Lat.Fd) (r : List Lat.Fd) : ew (f :: r) = (j9 f.v).bind fun x => (ew r).map fun ps => .mk f.n x :: ps := by cases f; rw [ew]; rfl
theorem bac (v : List Tm) (t : Tm) (hl : t.fs.length ≤ 1073741824) (h : ∀ f ∈ t.fs, OfR f.v) (ks : List Ex) (hks : ks.length ≤ 1073741823) (h0 : ks = []) (i : Nat) (hi : i ≤ 1073741824) : ∀ (d k : Nat) (acc : List Pr), k + d = t.fs.length → acc.length ≤ k →
  ax.l2 (bv v) bx0 o1 (.int .i64 (i : Int)) (.boxv 8 (ao t) []) (.boxv 7 (stX 10 t.o) [(4, .own 8 (mh acc)), (3, .own 1 []), (6, .own 7 [])]) (.int .i64 (k : Int)) = nxt v ks i ((ew (t.fs.drop k)).map fun ps => .mk 10 0 [] [] (acc ++ ps) t.o [])
 | 0, k, acc, hk, ha => by
  unfold bv bx0 o1 stX
  rw [ax.a1w]
  simp only [g7, jk, cp]
  rw [decide_eq_false (by omega), ifF, gOK (by simp), guT, bc (by omega), ew, aj (by omega)]
  simp only [Option.map_some, List.append_nil]
  subst h0
  rw [show ([] : List (List AV)) ++ [[AV.int .i64 10, AV.int .i64 0, AV.str [], AV.sl 1 [], AV.sl 8 (mh acc), AV.bool t.o, AV.sl 7 []]] = er ([] ++ [.mk 10 0 [] [] acc t.o []]) from o5 [] (.mk 10 0 [] [] acc t.o [])]
  rfl
 | d + 1, k, acc, hk, ha => by
  have h1 : k < t.fs.length := by omega
  have e1 : t.fs[k]? = some t.fs[k] := List.getElem?_eq_getElem h1
  obtain ⟨x, hx, hxx⟩ := h _ (List.getElem_mem h1)
  have ih := fun x => bac v t hl h ks hks h0 i hi d (k + 1) (acc ++ [.mk t.fs[k].n x]) (by omega) (by simp; omega)
  unfold bv bx0 o1 stX at ih ⊢
  rw [ax.a1w]
  simp only [g7, jk, cp]
  rw [decide_eq_true (by omega), ifT, an (dx e1), h1_]
  rw [hx, ab, o6, qp, bq, au h1, aan]
  cases hq : j9 t.fs[k].v with
  | none => rfl
  | some y =>
   obtain rfl := hxx y hq
   rw [Option.isSome_some, Bool.not_true, ifF, an (dx e1), h0_, cf, afi, gOK (by rw [kx]; simp; omega), guT, aj (by omega), agf, ih x, Option.bind_some]
   cases ew (t.fs.drop (k + 1)) with
   | none => rfl
   | some l => simp [Option.map]
theorem biq (v : List Tm) (t : Tm) (hl : t.fs.length ≤ 1073741824) (h : ∀ f ∈ t.fs, OfR f.v) (ks : List Ex) (hks : ks.length ≤ 1073741823) (h0 : ks = []) (i : Nat) (hi : i ≤ 1073741824) :
  ax.l2 (bv v) bx0 o1 (.int .i64 (i : Int)) (.boxv 8 (ao t) []) (.boxv 7 (stX 10 t.o) [(3, .own 1 []), (4, .own 8 []), (6, .own 7 [])]) (.int .i64 0) = nxt v ks i ((ew t.fs).map fun ps => .mk 10 0 [] [] ps t.o []) := by
 by_cases hn : t.fs.length = 0
 ·have hf := List.eq_nil_of_length_eq_zero hn
  unfold bv bx0 o1 stX
  rw [ax.y7]
  simp only [g7, jk, cp]
  rw [decide_eq_false (by omega), ifF, gOK (by simp), guT, hf, ew, aj (by omega)]
  subst h0
  rw [show ([] : List (List AV)) ++ [[AV.int .i64 10, AV.int .i64 0, AV.str [], AV.sl 1 [], AV.sl 8 [], AV.bool t.o, AV.sl 7 []]] = er ([] ++ [.mk 10 0 [] [] [] t.o []]) from o5 [] (.mk 10 0 [] [] [] t.o [])]
  rfl
 ·have h1 : 0 < t.fs.length := by omega
  have e1 : t.fs[0]? = some t.fs[0] := List.getElem?_eq_getElem h1
  obtain ⟨x, hx, hxx⟩ := h _ (List.getElem_mem h1)
  have ih := fun x => bac v t hl h ks hks h0 i hi (t.fs.length - 1) 1 [.mk t.fs[0].n x] (by omega) (by simp)
  unfold bv bx0 o1 stX at ih ⊢
  rw [ax.y7]
  simp only [g7, jk, cp]
  have hz : ∀ {α : Type} (q : List AV → Option α), idx (cq t.fs) 0 q = q (kg t.fs[0]) := fun q => an (j := 0) (dx e1) q
  have hd : ew t.fs = (j9 t.fs[0].v).bind fun x => (ew (t.fs.drop 1)).map fun ps => .mk t.fs[0].n x :: ps := by
   rw [← aan, ← au h1, List.drop_zero]
  rw [decide_eq_true (by omega), ifT, hz, h1_]
  rw [hx, ab, o6, qp, bq, hd]
  cases hq : j9 t.fs[0].v with
  | none => rfl
  | some y =>
   obtain rfl := hxx y hq
   rw [Option.isSome_some, Bool.not_true, ifF, hz, h0_, cf, afi, gOK (by simp), guT, show w64 ((0 : Int) + 1) = ((1 : Nat) : Int) from rfl]
   refine (ih x).trans ?_
   rw [Option.bind_some]
   cases ew (t.fs.drop 1) with
   | none => rfl
   | some l => rfl
theorem bir (v : List Tm) (hv : v.length ≤ 1073741824) (i : Nat) (hi : i < v.length) (hk : 1 ≤ v[i].k ∧ v[i].k ≤ 5) (hl : v[i].fs.length ≤ 1073741824) (h : ∀ f ∈ v[i].fs, OfR f.v) (ks : List Ex) (hks : ks.length ≤ 1073741823) (h0 : ks = []) :
  ax.l0 (bv v) bx0 o1 (.int .i64 (i : Int)) = nxt v ks i (gu v[i]) := by
 have e1 : v[i]? = some v[i] := List.getElem?_eq_getElem hi
 subst h0
 have hp := biq v v[i] hl h [] hks rfl i (by omega)
 have hlast : ∀ x, ax.l0 (bv v) bx0 (.boxv 7 (stX 12 false) [(6, .own 7 (er [] ++ [bh x])), (3, .own 1 []), (4, .own 8 [])]) (.int .i64 (w64 ((i : Int) + 1))) = nxt v [] i (some x) := fun x => by
  rw [o5, aj (by omega)]; rfl
 unfold bv bx0 o1 stX at hp ⊢
 unfold bv bx0 stX at hlast
 rw [ax.ai]
 simp only [gc0, ic, ct]
 rw [decide_eq_true (by omega), ifT, an (gm e1), g0, bf, at5]
 by_cases h4 : v[i].k < 4
 ·rw [decide_eq_true h4, ifT, ajt v[i] (by omega), ab, qp, if_neg (show ¬ v[i].k = 5 by omega), if_neg (show ¬ v[i].k = 4 by omega), ax.mf, g0, bf, decide_eq_false (by omega), ifF, gOK (by simp), guT]
  exact hlast _
 ·rw [decide_eq_false h4, ifF, ax.ac3, g0, bf]
  by_cases h5 : v[i].k = 5
  ·rw [decide_eq_false (by omega), ifF, if_pos h5, gOK (by simp), guT]
   exact hlast (lf 4 5)
  ·have h44 : v[i].k = 4 := by omega
   rw [decide_eq_true h44, ifT, if_neg h5, if_pos h44, g6, bq]
   exact hp
theorem bae (v : List Tm) (t : Tm) (hl : t.fs.length ≤ 1073741824) (h : ∀ f ∈ t.fs, OfR f.v) (ks : List Ex) (hks : ks.length ≤ 1073741823) (i : Nat) (hi : i ≤ 1073741824) : ∀ (d k : Nat) (acc : List Pr), k + d = t.fs.length → acc.length ≤ k →
  ax.l2 (bv v) bx0 (o2 ks) (.int .i64 (i : Int)) (.boxv 8 (ao t) []) (.boxv 7 (stX 10 t.o) [(4, .own 8 (mh acc)), (3, .own 1 []), (6, .own 7 [])]) (.int .i64 (k : Int)) = nxt v ks i ((ew (t.fs.drop k)).map fun ps => .mk 10 0 [] [] (acc ++ ps) t.o [])
 | 0, k, acc, hk, ha => by
  unfold bv bx0 o2 stX
  rw [ax.a1y]
  simp only [g7, jk, cp]
  rw [decide_eq_false (by omega), ifF, gOK (by rw [fz, List.length_singleton]; omega), guT, bc (by omega), ew, aj (by omega)]
  simp only [Option.map_some, List.append_nil]
  skip
  rw [show er ks ++ [[AV.int .i64 10, AV.int .i64 0, AV.str [], AV.sl 1 [], AV.sl 8 (mh acc), AV.bool t.o, AV.sl 7 []]] = er (ks ++ [.mk 10 0 [] [] acc t.o []]) from o5 ks (.mk 10 0 [] [] acc t.o [])]
  rfl
 | d + 1, k, acc, hk, ha => by
  have h1 : k < t.fs.length := by omega
  have e1 : t.fs[k]? = some t.fs[k] := List.getElem?_eq_getElem h1
  obtain ⟨x, hx, hxx⟩ := h _ (List.getElem_mem h1)
  have ih := fun x => bae v t hl h ks hks i hi d (k + 1) (acc ++ [.mk t.fs[k].n x]) (by omega) (by simp; omega)
  unfold bv bx0 o2 stX at ih ⊢
  rw [ax.a1y]
  simp only [g7, jk, cp]
  rw [decide_eq_true (by omega), ifT, an (dx e1), h1_]
  rw [hx, ab, o6, qp, bq, au h1, aan]
  cases hq : j9 t.fs[k].v with
  | none => rfl
  | some y =>
   obtain rfl := hxx y hq
   rw [Option.isSome_some, Bool.not_true, ifF, an (dx e1), h0_, cf, afi, gOK (by rw [kx]; simp; omega), guT, aj (by omega), agf, ih x, Option.bind_some]
   cases ew (t.fs.drop (k + 1)) with
   | none => rfl
   | some l => simp [Option.map]
theorem bis (v : List Tm) (t : Tm) (hl : t.fs.length ≤ 1073741824) (h : ∀ f ∈ t.fs, OfR f.v) (ks : List Ex) (hks : ks.length ≤ 1073741823) (i : Nat) (hi : i ≤ 1073741824) :
  ax.l2 (bv v) bx0 (o2 ks) (.int .i64 (i : Int)) (.boxv 8 (ao t) []) (.boxv 7 (stX 10 t.o) [(3, .own 1 []), (4, .own 8 []), (6, .own 7 [])]) (.int .i64 0) = nxt v ks i ((ew t.fs).map fun ps => .mk 10 0 [] [] ps t.o []) := by
 by_cases hn : t.fs.length = 0
 ·have hf := List.eq_nil_of_length_eq_zero hn
  unfold bv bx0 o2 stX
  rw [ax.a1x]
  simp only [g7, jk, cp]
  rw [decide_eq_false (by omega), ifF, gOK (by rw [fz, List.length_singleton]; omega), guT, hf, ew, aj (by omega)]
  skip
  rw [show er ks ++ [[AV.int .i64 10, AV.int .i64 0, AV.str [], AV.sl 1 [], AV.sl 8 [], AV.bool t.o, AV.sl 7 []]] = er (ks ++ [.mk 10 0 [] [] [] t.o []]) from o5 ks (.mk 10 0 [] [] [] t.o [])]
  rfl
 ·have h1 : 0 < t.fs.length := by omega
  have e1 : t.fs[0]? = some t.fs[0] := List.getElem?_eq_getElem h1
  obtain ⟨x, hx, hxx⟩ := h _ (List.getElem_mem h1)
  have ih := fun x => bae v t hl h ks hks i hi (t.fs.length - 1) 1 [.mk t.fs[0].n x] (by omega) (by simp)
  unfold bv bx0 o2 stX at ih ⊢
  rw [ax.a1x]
  simp only [g7, jk, cp]
  have hz : ∀ {α : Type} (q : List AV → Option α), idx (cq t.fs) 0 q = q (kg t.fs[0]) := fun q => an (j := 0) (dx e1) q
  have hd : ew t.fs = (j9 t.fs[0].v).bind fun x => (ew (t.fs.drop 1)).map fun ps => .mk t.fs[0].n x :: ps := by
   rw [← aan, ← au h1, List.drop_zero]
  rw [decide_eq_true (by omega), ifT, hz, h1_]
  rw [hx, ab, o6, qp, bq, hd]
  cases hq : j9 t.fs[0].v with
  | none => rfl
  | some y =>
   obtain rfl := hxx y hq
   rw [Option.isSome_some, Bool.not_true, ifF, hz, h0_, cf, afi, gOK (by simp), guT, show w64 ((0 : Int) + 1) = ((1 : Nat) : Int) from rfl]
   refine (ih x).trans ?_
   rw [Option.bind_some]
   cases ew (t.fs.drop 1) with
   | none => rfl
   | some l => rfl
theorem biu (v : List Tm) (hv : v.length ≤ 1073741824) (i : Nat) (hi : i < v.length) (hk : 1 ≤ v[i].k ∧ v[i].k ≤ 5) (hl : v[i].fs.length ≤ 1073741824) (h : ∀ f ∈ v[i].fs, OfR f.v) (ks : List Ex) (hks : ks.length ≤ 1073741823) :
  ax.l0 (bv v) bx0 (o2 ks) (.int .i64 (i : Int)) = nxt v ks i (gu v[i]) := by
 have e1 : v[i]? = some v[i] := List.getElem?_eq_getElem hi
 have hp := bis v v[i] hl h ks hks i (by omega)
 have hlast : ∀ x, ax.l0 (bv v) bx0 (.boxv 7 (stX 12 false) [(6, .own 7 (er ks ++ [bh x])), (3, .own 1 []), (4, .own 8 [])]) (.int .i64 (w64 ((i : Int) + 1))) = nxt v ks i (some x) := fun x => by
  rw [o5, aj (by omega)]; rfl
 unfold bv bx0 o2 stX at hp ⊢
 unfold bv bx0 stX at hlast
 rw [ax.ql]
 simp only [gc0, ic, ct]
 rw [decide_eq_true (by omega), ifT, an (gm e1), g0, bf, at5]
 by_cases h4 : v[i].k < 4
 ·rw [decide_eq_true h4, ifT, ajt v[i] (by omega), ab, qp, if_neg (show ¬ v[i].k = 5 by omega), if_neg (show ¬ v[i].k = 4 by omega), ax.bfq, g0, bf, decide_eq_false (by omega), ifF, gOK (by rw [fz, List.length_singleton]; omega), guT]
  exact hlast _
 ·rw [decide_eq_false h4, ifF, ax.bfr, g0, bf]
  by_cases h5 : v[i].k = 5
  ·rw [decide_eq_false (by omega), ifF, if_pos h5, gOK (by rw [fz, List.length_singleton]; omega), guT]
   exact hlast (lf 4 5)
  ·have h44 : v[i].k = 4 := by omega
   rw [decide_eq_true h44, ifT, if_neg h5, if_pos h44, g6, bq]
   exact hp
def agl (l : List Ex) : Option AV := if l.length = 1 then (match l with | x :: _ => some (.tup [.agg 7 (bh x), .bool true]) | [] => none) else some (.tup [.agg 7 (bh (.mk 12 0 [] [] [] false l)), .bool (decide ((l.length : Int) ≤ 32))])
def at6 (ks : List Ex) : Option (List Ex) → Option AV
 | none => noX
 | some l => agl (ks ++ l)
theorem axx (v : List Tm) (hv : v.length ≤ 1073741824) (hk : ∀ t ∈ v, 1 ≤ t.k ∧ t.k ≤ 5) (hl : ∀ t ∈ v, t.fs.length ≤ 1073741824) (h : ∀ t ∈ v, ∀ f ∈ t.fs, OfR f.v) : ∀ (d i : Nat) (ks : List Ex), i + d = v.length → ks.length = i →
  ax.l0 (bv v) bx0 (o2 ks) (.int .i64 (i : Int)) = at6 ks (eh (v.drop i))
 | 0, i, ks, hi, hks => by
  unfold bv bx0 o2 stX
  rw [ax.ql]
  simp only [gc0, ic, ct, fz]
  rw [decide_eq_false (by omega), ifF, bc (by omega), eh]
  show _ = agl (ks ++ [])
  rw [List.append_nil]
  unfold agl
  by_cases h1 : ks.length = 1
  ·rw [decide_eq_true (by omega), ifT, if_pos h1]
   match ks, h1 with
   | [x], _ => rfl
  ·rw [decide_eq_false (by omega), ifF, if_neg h1]
   rfl
 | d + 1, i, ks, hi, hks => by
  have h1 : i < v.length := by omega
  have hm := List.getElem_mem h1
  rw [biu v hv i h1 (hk _ hm) (hl _ hm) (h _ hm) ks (by omega), au h1]
  have hx : eh (v[i] :: v.drop (i + 1)) = (gu v[i]).bind fun x => (eh (v.drop (i + 1))).map fun l => x :: l := by rw [eh]
  rw [hx]
  cases gu v[i] with
  | none => rfl
  | some x =>
   rw [nxt, axx v hv hk hl h d (i + 1) (ks ++ [x]) (by omega) (by simp; omega), Option.bind_some]
   cases eh (v.drop (i + 1)) with
   | none => rfl
   | some l => simp [at6]
theorem agm : ∀ {v : List Tm} {l : List Ex}, eh v = some l → l.length = v.length
 | [], l, h => by rw [eh] at h; cases h; rfl
 | t :: r, l, h => by
  rw [eh] at h
  obtain ⟨x, _, h⟩ := Option.bind_eq_some_iff.1 h
  obtain ⟨q, hq, rfl⟩ := Option.map_eq_some_iff.1 h
  rw [List.length_cons, List.length_cons, agm hq]
theorem biv (v : List Tm) (hv : v.length ≤ 1073741824) (hk : ∀ t ∈ v, 1 ≤ t.k ∧ t.k ≤ 5) (hl : ∀ t ∈ v, t.fs.length ≤ 1073741824) (h : ∀ t ∈ v, ∀ f ∈ t.fs, OfR f.v) : OfR v := by
 unfold OfR
 rw [ax.ae]
 simp only [gc0, ic, ct]
 by_cases hn : v.length = 0
 ·obtain rfl := List.eq_nil_of_length_eq_zero hn
  refine ⟨lf 5 0, ?_, fun y hy => by rw [j9] at hy; cases hy; rfl⟩
  rw [j9]; rfl
 ·rw [decide_eq_false (by omega), ifF]
  have h1 : 0 < v.length := by omega
  have hm := List.getElem_mem h1
  have hx : eh v = (gu v[0]).bind fun x => (eh (v.drop 1)).map fun l => x :: l := by
   have := au h1
   rw [List.drop_zero] at this
   conv => lhs; rw [this, eh]
  have hst := bir v hv 0 h1 (hk _ hm) (hl _ hm) (h _ hm) [] (by simp) rfl
  have hall : ax.l0 (bv v) bx0 o1 (.int .i64 ((0 : Nat) : Int)) = at6 [] (eh v) := by
   rw [hst, hx]
   cases gu v[0] with
   | none => rfl
   | some x =>
    rw [nxt, axx v hv hk hl h (v.length - 1) (0 + 1) ([] ++ [x]) (by omega) (by simp), Option.bind_some]
    cases eh (v.drop 1) with
    | none => rfl
    | some l => rfl
  have hgo : ∀ r, ax.l0 (bv v) bx0 o1 (.int .i64 ((0 : Nat) : Int)) = r → ax.l0 (AV.boxv 1 [.sl 8 (al v)] []) (AV.boxv 7 [AV.int .i64 0, AV.int .i64 0, AV.str [], AV.sl 1 [], AV.sl 8 [], AV.bool false, AV.sl 7 []] [(3, AV.own 1 []), (4, AV.own 8 []), (6, AV.own 7 [])]) (AV.boxv 7 [AV.int .i64 12, AV.int .i64 0, AV.str [], AV.sl 1 [], AV.sl 8 [], AV.bool false, AV.sl 7 []] [(3, AV.own 1 []), (4, AV.own 8 []), (6, AV.own 7 [])]) (AV.int .i64 0) = r := fun r h => h
  rw [hgo _ hall]
  have hone : ∀ t, v = [t] → eh v = (gu t).map fun x => [x] := fun t ht => by
   subst ht
   have : ∀ q, eh (t :: q) = (gu t).bind fun x => (eh q).map fun l => x :: l := fun q => by rw [eh]
   rw [this, eh]
   cases gu t <;> rfl
  by_cases h11 : v.length = 1
  ·obtain ⟨t, rfl⟩ : ∃ t, v = [t] := by
    match v, h11 with
    | [t], _ => exact ⟨t, rfl⟩
   rw [hone t rfl, j9]
   cases gu t with
   | none => exact ⟨lf 0 0, rfl, fun y hy => by cases hy⟩
   | some x => exact ⟨x, rfl, fun y hy => by cases hy; rfl⟩
  ·by_cases h32 : v.length ≤ 32
   ·rw [aeg (by omega) h32]
    cases ht : eh v with
    | none => exact ⟨lf 0 0, rfl, fun y hy => by cases hy⟩
    | some l =>
     have hll := agm ht
     refine ⟨.mk 12 0 [] [] [] false l, ?_, fun y hy => by cases hy; rfl⟩
     show agl ([] ++ l) = _
     rw [List.nil_append]
     unfold agl
     rw [if_neg (by omega), decide_eq_true (by omega)]; rfl
   ·rw [aeh (by omega)]
    cases ht : eh v with
    | none => exact ⟨lf 0 0, rfl, fun y hy => by cases hy⟩
    | some l =>
     have hll := agm ht
     refine ⟨.mk 12 0 [] [] [] false l, ?_, fun y hy => by cases hy⟩
     show agl ([] ++ l) = _
     rw [List.nil_append]
     unfold agl
     rw [if_neg (by omega), decide_eq_false (by omega)]; rfl
theorem axy (v : List Tm) (hz : szV v ≤ 1073741824) (hk : KOK v) : OfR v := by
 have hlen := fh v
 cases hk with
 | mk _ h h' =>
  have hf : ∀ t ∈ v, t.fs.length ≤ 1073741824 := fun t ht => by
   have h1 := gw t.fs
   have h2 := ll (v := v) ht
   rw [fw] at h2
   omega
  refine biv v (by omega) h hf fun t ht f hf => ?_
  have h3 := jt ht hf
  exact axy f.v (by omega) (h' t ht f hf)
termination_by szV v
decreasing_by have := jt ht hf; omega
end Go.Proofs.YtmdimhcjogjcgaaGreatDoor.Xp
namespace Go.Proofs.YtmdimhcjogjcgaaGreatDoor.Lat
open Go.Proofs.YtmdimhcjogjcgaaGreatDoor.Abs
theorem ahs (n : Int) (h0 : ¬ n < 0) : Lib.itoa n = Lib.decDigits n.toNat := by unfold Lib.itoa; rw [if_neg h0]
theorem aht (n : Int) (h0 : n < 0) : Lib.itoa n = 45 :: Lib.decDigits n.natAbs := by unfold Lib.itoa; rw [if_pos h0]
theorem amh {u : Nat} (h : u < 10) : Lib.decDigits u = [UInt8.ofNat (48 + u)] := by rw [Lib.decDigits, dif_pos h]
theorem at7 {u : Nat} (h : ¬ u < 10) : Lib.decDigits u = Lib.decDigits (u / 10) ++ [UInt8.ofNat (48 + u % 10)] := by rw [Lib.decDigits, dif_neg h]
theorem one_byte {α : Type} (u : Nat) (h : u < 10) (n : Int) (hn : n = ((48 + u : Nat) : Int)) (k : List UInt8 → Option α) : tq [[AV.int .u8 (IntKind.wrap .u8 n)]] k = k [UInt8.ofNat (48 + u)] := by
 have : IntKind.wrap .u8 n = ((48 + u : Nat) : Int) := by
  subst hn; simp [IntKind.wrap, IntKind.bits, IntKind.signed]; omega
 rw [this]
 rfl
theorem ai7 (u : Nat) (h : u < 9223372036854775809) : (Lib.decDigits u).length ≤ 20 := by
 rw [Lib.decDigits_length]; exact Lib.nDigits_le20 u (by omega)
theorem a7z (m : Nat) : ∀ (n : Int), n.natAbs ≤ m → -9223372036854775808 ≤ n → n ≤ 9223372036854775807 → ni (.int .i64 n) = some (.str (Lib.itoa n)) := by
 induction m using Nat.strongRecOn with
 | _ m ih =>
  intro n hm h0 h1
  rw [ni.ae]
  simp only [kq, ab]
  by_cases hp : 0 ≤ n
  ·obtain ⟨u, rfl⟩ := Int.eq_ofNat_of_zero_le hp
   rw [ahs _ (by omega), Int.toNat_natCast]
   by_cases h10 : u < 10
   ·rw [decide_eq_true hp, decide_eq_true (p := (u : Int) < 10) (by omega), Bool.and_self, ifT, one_byte u h10 _ (by rw [qm (by omega)]; omega), amh h10]
   ·rw [decide_eq_true hp, decide_eq_false (p := (u : Int) < 10) (by omega), Bool.and_false, ifF, decide_eq_true (by omega), ifT]
    have e : w64 (Int.tdiv (u : Int) 10) = ((u / 10 : Nat) : Int) := by rw [Int.tdiv_eq_ediv_of_nonneg hp, qm (by omega)]; omega
    rw [e, ih (u / 10) (by omega) _ (by omega) (by omega) (by omega)]
    simp only [ab, cf]
    have e2 : w64 (48 + Int.tmod (u : Int) 10) = ((48 + u % 10 : Nat) : Int) := by
     rw [Int.tmod_eq_emod_of_nonneg hp, qm (by omega)]; omega
    rw [one_byte (u % 10) (by omega) _ e2, ahs _ (by omega), Int.toNat_natCast]
    have := ai7 (u / 10) (by omega)
    rw [show Nat.ble ((Lib.decDigits (u / 10)).length + [UInt8.ofNat (48 + u % 10)].length) lim = true by rw [Nat.ble_eq]; simp only [lim, List.length_cons, List.length_nil]; omega, guT, at7 h10]
  ·obtain ⟨u, hu⟩ : ∃ u : Nat, n = -(u : Int) := ⟨n.natAbs, by omega⟩
   subst hu
   have hu0 : 0 < u := by omega
   rw [aht _ (by omega), show (-(u : Int)).natAbs = u by omega]
   have em : w64 (48 + w64 (0 - Int.tmod (-(u : Int)) 10)) = ((48 + u % 10 : Nat) : Int) := by
    rw [Int.neg_tmod, show (0 : Int) - -Int.tmod (u : Int) 10 = Int.tmod (u : Int) 10 by omega, Int.tmod_eq_emod_of_nonneg (by omega), qm (n := (u : Int) % 10) (by omega), qm (by omega)]; omega
   rw [decide_eq_false (p := 0 ≤ -(u : Int)) (by omega), Bool.false_and, ifF, decide_eq_false (by omega), ifF, one_byte (u % 10) (by omega) _ em]
   by_cases h10 : u < 10
   ·rw [decide_eq_true (by omega), ifT, amh h10, Nat.mod_eq_of_lt h10]; rfl
   ·have ed : w64 (Int.tdiv (-(u : Int)) 10) = -((u / 10 : Nat) : Int) := by
     rw [Int.neg_tdiv, Int.tdiv_eq_ediv_of_nonneg (by omega), qm (by omega)]; omega
    rw [decide_eq_false (by omega), ifF, ed, ih (u / 10) (by omega) _ (by omega) (by omega) (by omega)]
    simp only [ab, cf]
    rw [one_byte (u % 10) (by omega) _ em]
    rw [aht _ (by omega), show (-((u / 10 : Nat) : Int)).natAbs = u / 10 by omega]
    have := ai7 (u / 10) (by omega)
    rw [show Nat.ble ((45 :: Lib.decDigits (u / 10)).length + [UInt8.ofNat (48 + u % 10)].length) lim = true by rw [Nat.ble_eq]; simp only [lim, List.length_cons, List.length_nil]; omega, guT, at7 h10]
    rfl
def inI (n : Int) : Prop := -9223372036854775808 ≤ n ∧ n ≤ 9223372036854775807
theorem a71 {n : Int} (h : inI n) : ni (.int .i64 n) = some (.str (Lib.itoa n)) := a7z n.natAbs n (Nat.le_refl _) h.1 h.2
theorem a73 {n : Int} (h : inI n) : akd (.int .i64 n) = some (.str (Lib.itoa n)) := by
 have : ah S 183 [.int .i64 n] = ac0 [.int .i64 n] := ahp (f := 183) rfl _
 rw [show akd (.int .i64 n) = ah S 183 [.int .i64 n] from rfl, this]
 exact if_pos h
end Go.Proofs.YtmdimhcjogjcgaaGreatDoor.Lat
namespace Go.Proofs.YtmdimhcjogjcgaaGreatDoor.Xp
open Go.Proofs.YtmdimhcjogjcgaaGreatDoor.Abs Go.Proofs.YtmdimhcjogjcgaaGreatDoor.Lat
theorem aua {s : Bs} (h : Rn s = true) : s.length ≤ 16 := by
 have h : Nam.ep s = true := h
 unfold Nam.ep at h
 simp only [Bool.and_eq_true, decide_eq_true_eq] at h
 exact h.1.1.2
theorem aub : ∀ (d : List Bs) (p : Option Bs), jc Rn p (fsD d) = true → ∀ s ∈ d, Rn s = true
 | [], p, _, s, h => by cases h
 | x :: r, p, h, s, hs => by
  have h' : (Rn x && qh p x && jc Rn (some x) (fsD r)) = true := h
  simp only [Bool.and_eq_true] at h'
  rcases List.mem_cons.1 hs with rfl | hs
  ·exact h'.1.1
  ·exact aub r _ h'.2 s hs
theorem ai8 {d : List Bs} (h : ri d = true) : ∀ s ∈ d, s.length ≤ 16 := fun s hs => aua (aub d none h s hs)
theorem auc : ∀ s : Bs, (s.flatMap qc).length ≤ 4 * s.length
 | [] => by simp
 | c :: r => by
  have := auc r
  have := atx c
  rw [List.flatMap_cons, List.length_append, List.length_cons]; omega
theorem azh (s : Bs) : (aa2 s).length ≤ 4 * s.length + 2 := by
 have := auc s
 unfold aa2
 simp only [List.length_cons, List.length_append, List.length_nil]; omega
theorem akn {n : Int} (h : -9223372036854775808 ≤ n ∧ n ≤ 9223372036854775807) : (Lib.itoa n).length ≤ 21 := by
 by_cases h0 : n < 0
 ·rw [aht n h0, List.length_cons]
  have := ai7 n.natAbs (by omega); omega
 ·rw [ahs n h0]
  have := ai7 n.toNat (by omega); omega
theorem join_le (xs : List Bs) (sep : Bs) : (Lib.join xs sep).length ≤ Lib.lens xs + sep.length * xs.length := by
 cases xs with
 | nil => simp [Lib.join_nil]
 | cons x r =>
  rw [Lib.join_length, List.length_cons, Nat.mul_succ]; omega
theorem vr (x : Bs) (r : List Bs) : Lib.lens (x :: r) = x.length + Lib.lens r := by simp [Lib.lens]
theorem aud (a b : List Bs) : Lib.lens (a ++ b) = Lib.lens a + Lib.lens b := by simp [Lib.lens]
theorem aa4 (op : Int) : (rk op).length = 3 := by unfold rk; split <;> rfl
theorem agn (op : Int) : ∀ ks : List Ex, (nj op ks).length = ks.length
 | [] => rfl
 | k :: r => by rw [nj, List.length_cons, List.length_cons, agn op r]
theorem vt : ∀ ps : List Pr, (ny ps).length = ps.length
 | [] => rfl
 | .mk n e :: r => by rw [ny, List.length_cons, List.length_cons, vt r]
theorem aod (op : Int) : ∀ ks : List Ex, (∀ k ∈ ks, (txE k).length + 32 ≤ 2048 * szE k) → Lib.lens (nj op ks) + 30 * ks.length ≤ 2048 * tj ks
 | [], _ => by simp [nj, Lib.lens]
 | k :: r, h => by
  have ih := aod op r fun x hx => h x (List.mem_cons_of_mem _ hx)
  have hk := h k (List.mem_cons_self ..)
  rw [nj, vr, tj, List.length_cons]
  split
  ·simp only [List.length_cons, List.length_append, List.length_nil]; omega
  ·omega
theorem aoe : ∀ ps : List Pr, (∀ p ∈ ps, (txE p.e).length + 32 ≤ 2048 * szE p.e) → (∀ p ∈ ps, p.n.length ≤ 16) → Lib.lens (ny ps) + 13 * ps.length ≤ 2048 * vo ps
 | [], _, _ => by simp [ny, Lib.lens]
 | .mk n e :: r, h, hn => by
  have ih := aoe r (fun x hx => h x (List.mem_cons_of_mem _ hx)) (fun x hx => hn x (List.mem_cons_of_mem _ hx))
  have hk : (txE e).length + 32 ≤ 2048 * szE e := h _ (List.mem_cons_self ..)
  have hn' : n.length ≤ 16 := hn _ (List.mem_cons_self ..)
  rw [ny, vr, vo, List.length_cons]
  simp only [List.length_cons, List.length_append, List.length_nil]; omega
theorem abd (op n : Int) : txE (lf op n) = if op = 1 then Lib.itoa n else if op = 2 then aa2 [] else if op = 3 then (if n = 1 then [116, 114, 117, 101] else [102, 97, 108, 115, 101]) else if op = 4 then arq n
  else if op = 5 then [110, 111, 110, 101] else if op = 6 then [99, 111, 109, 112, 117, 116, 101, 100] else if op = 7 then 62 :: 61 :: Lib.itoa n else if op = 8 then 60 :: 61 :: Lib.itoa n
  else if op = 10 then 123 :: (Lib.join (ny [] ++ (if false = true then [[46, 46, 46]] else [])) [32] ++ [125]) else Lib.join (nj op []) (rk op) := by rw [lf, txE]
theorem aa5 (e : Ex) (h : GX e) : (txE e).length + 32 ≤ 2048 * szE e := by
 have hpos := an9 e
 cases h with
 | nu op n h hn =>
  have hi := akn (n := n) (by omega)
  rw [abd]
  rcases h with rfl | rfl | rfl
  ·rw [if_pos rfl]; omega
  ·rw [if_neg (by decide), if_neg (by decide), if_neg (by decide), if_neg (by decide), if_neg (by decide), if_neg (by decide), if_pos rfl]
   simp only [List.length_cons]; omega
  ·rw [if_neg (by decide), if_neg (by decide), if_neg (by decide), if_neg (by decide), if_neg (by decide), if_neg (by decide), if_neg (by decide), if_pos rfl]
   simp only [List.length_cons]; omega
 | tx s h =>
  have := azh s
  rw [txE, if_neg (by decide), if_pos rfl]; omega
 | bo n h =>
  rw [abd]
  rcases h with rfl | rfl <;> (simp; omega)
 | ki n h =>
  rw [abd]
  rcases h with rfl | rfl | rfl | rfl <;> (simp [arq]; omega)
 | ze op h =>
  rw [abd]
  rcases h with rfl | rfl <;> (simp; omega)
 | st ps o h hr hp =>
  have hk := aoe ps (fun p hm => have := ame (e := .mk 10 0 [] [] ps o []) hm; aa5 p.e (hp p hm)) (fun p hm => ai8 hr p.n (List.mem_map_of_mem hm))
  rw [txE, if_neg (by decide), if_neg (by decide), if_neg (by decide), if_neg (by decide), if_neg (by decide), if_neg (by decide), if_neg (by decide), if_neg (by decide), if_pos rfl]
  have hj := join_le (ny ps ++ (if o = true then [[46, 46, 46]] else [])) [32]
  rw [aud, List.length_append, vt] at hj
  have h1 : Lib.lens (if o = true then [[46, 46, 46]] else []) ≤ 3 := by cases o <;> simp [Lib.lens]
  have h2 : (if o = true then [[(46 : UInt8), 46, 46]] else []).length ≤ 1 := by cases o <;> simp
  simp only [List.length_cons, List.length_append, List.length_nil] at hj ⊢
  rw [szE, tj]
  omega
 | ks op h ks h1 h2 hk =>
  have hk := aod op ks fun k hm => have := amd (e := .mk op 0 [] [] [] false ks) hm; aa5 k (hk k hm)
  have hj := join_le (nj op ks) (rk op)
  rw [aa4, agn] at hj
  have ht : txE (.mk op 0 [] [] [] false ks) = Lib.join (nj op ks) (rk op) := by
   rw [txE]
   rcases h with rfl | rfl <;> rfl
  rw [ht, szE, vo]
  omega
termination_by szE e
theorem gW {n m : Nat} (h : n + m ≤ 1099511627776) : Nat.ble (n + m) lim = true := by rw [Nat.ble_eq]; unfold lim; omega
def kt (op : Int) (k : Ex) : Bs := if brk op k.op = true then 40 :: (txE k ++ [41]) else txE k
theorem aej (op : Int) (k : Ex) (r : List Ex) : nj op (k :: r) = kt op k :: nj op r := by rw [nj]; rfl
def pt (p : Pr) : Bs := p.n ++ 58 :: 32 :: (txE p.e ++ [59])
theorem aek (p : Pr) (r : List Pr) : ny (p :: r) = pt p :: ny r := by cases p; rw [ny]; rfl
theorem ai9 (sep x : Bs) (r : List Bs) : Lib.joinTail sep (x :: r) = sep ++ (x ++ Lib.joinTail sep r) := by simp [Lib.joinTail, List.append_assoc]
theorem ami (sep : Bs) : Lib.joinTail sep [] = [] := rfl
theorem bf5 (op : Int) (k : Ex) : (kt op k).length ≤ (txE k).length + 2 ∧ (txE k).length ≤ (kt op k).length := by
 unfold kt; split
 ·simp only [List.length_cons, List.length_append, List.length_nil]; omega
 ·omega
section
variable (op n : Int) (s : Bs) (p : List Bs) (ps : List Pr) (o : Bool) (ks : List Ex) (hop : op = 11 ∨ op = 12) (hk : ∀ k ∈ ks, bt (.agg 7 (bh k)) = some (.str (txE k))) (hl : ks.length ≤ 1073741824)
include hop hk hl
theorem baf (acc : Bs) (i : Nat) (hi : i < ks.length) (hb : acc.length + (kt op ks[i]).length ≤ 1099511000000) :
  bt.j4 (.boxv 7 (bh (.mk op n s p ps o ks)) []) (.str acc) (.int .i64 (i : Int)) = bt.l1 (.boxv 7 (bh (.mk op n s p ps o ks)) []) (.str (acc ++ kt op ks[i])) (.int .i64 ((i + 1 : Nat) : Int)) := by
 have e1 : ks[i]? = some ks[i] := List.getElem?_eq_getElem hi
 have h2 := bf5 op ks[i]
 rw [bt.bik]
 simp only [x0, x6, bf, y8]
 have hx : (Ex.mk op n s p ps o ks).ks = ks := rfl
 have ho : (Ex.mk op n s p ps o ks).op = op := rfl
 rw [hx, ho, an (ph e1), x0, bf, a7y op i _ hop, ab, bq]
 unfold kt at hb ⊢
 cases hbr : brk op ks[i].op with
 | true =>
  rw [hbr, if_pos rfl] at hb
  simp only [List.length_cons, List.length_append, List.length_nil] at hb
  rw [ifT, if_pos rfl, gW (by simp; omega), guT, an (ph e1), hk _ (List.getElem_mem hi), ab, cf, gW (by simp; omega), guT, gW (by simp; omega), guT, aj (by omega)]
  simp [List.append_assoc]
 | false =>
  rw [hbr, if_neg (by simp)] at hb
  rw [ifF, if_neg (by simp), an (ph e1), hk _ (List.getElem_mem hi), ab, cf, gW (by omega), guT, aj (by omega)]
theorem k_l : ∀ (d i : Nat) (acc : Bs), i + d = ks.length → 1 ≤ i → acc.length + Lib.lens (nj op (ks.drop i)) + 3 * d ≤ 1099511000000 →
  bt.l1 (.boxv 7 (bh (.mk op n s p ps o ks)) []) (.str acc) (.int .i64 (i : Int)) = some (.str (acc ++ Lib.joinTail (rk op) (nj op (ks.drop i))))
 | 0, i, acc, hi, h1, hb => by
  rw [bt.en]
  simp only [x6, y8, fz]
  have hx : (Ex.mk op n s p ps o ks).ks = ks := rfl
  rw [hx, decide_eq_false (by omega), ifF, bc (by omega), nj, ami, List.append_nil]
 | d + 1, i, acc, hi, h1, hb => by
  have hil : i < ks.length := by omega
  have hx : (Ex.mk op n s p ps o ks).ks = ks := rfl
  have ho : (Ex.mk op n s p ps o ks).op = op := rfl
  rw [au hil, aej, vr] at hb
  rw [bt.en]
  simp only [x6, x0, bf, y8, fz]
  rw [hx, ho, decide_eq_true (by omega), ifT, decide_eq_true (by omega), ifT, a3f op hop, ab, cf, gW (by rw [aa4]; omega), guT]
  rw [baf op n s p ps o ks hop hk hl (acc ++ rk op) i hil (by rw [List.length_append, aa4]; omega)]
  rw [k_l d (i + 1) (acc ++ rk op ++ kt op ks[i]) (by omega) (by omega) (by rw [List.length_append, List.length_append, aa4]; omega)]
  rw [au hil, aej, ai9]
  simp [List.append_assoc]
theorem biw (h1 : 1 ≤ ks.length) (hb : Lib.lens (nj op ks) + 3 * ks.length ≤ 1099511000000) : bt.l1 (.boxv 7 (bh (.mk op n s p ps o ks)) []) (.str []) (.int .i64 0) = some (.str (Lib.join (nj op ks) (rk op))) := by
 have hil : 0 < ks.length := by omega
 have hx : (Ex.mk op n s p ps o ks).ks = ks := rfl
 have hc := au hil
 rw [List.drop_zero] at hc
 have ht : nj op ks = kt op ks[0] :: nj op (ks.drop 1) := by
  conv => lhs; rw [hc, aej]
 rw [ht, vr] at hb
 rw [bt.en]
 simp only [x6, y8, fz]
 rw [hx, decide_eq_true (by omega), ifT, show decide ((0 : Int) < 0) = false from rfl, ifF]
 have h4 := baf op n s p ps o ks hop hk hl [] 0 hil (by simp; omega)
 refine h4.trans ?_
 rw [k_l op n s p ps o ks hop hk hl (ks.length - 1) (0 + 1) _ (by omega) (by omega) (by simp only [List.nil_append]; rw [Nat.zero_add]; omega), List.nil_append, Nat.zero_add, ht, Lib.join_cons]
end
section
variable (n : Int) (s : Bs) (p : List Bs) (ps : List Pr) (o : Bool) (ks : List Ex) (hk : ∀ q ∈ ps, bt (.agg 7 (bh q.e)) = some (.str (txE q.e))) (hl : ps.length ≤ 1073741824)
include hk hl
theorem bag (acc : Bs) (i : Nat) (hi : i < ps.length) (hb : acc.length + (pt ps[i]).length ≤ 1099511000000) :
  bt.j2 (.boxv 7 (bh (.mk 10 n s p ps o ks)) []) (.str acc) (.int .i64 (i : Int)) = bt.l0 (.boxv 7 (bh (.mk 10 n s p ps o ks)) []) (.str (acc ++ pt ps[i])) (.int .i64 ((i + 1 : Nat) : Int)) := by
 have e1 : ps[i]? = some ps[i] := List.getElem?_eq_getElem hi
 have hx : (Ex.mk 10 n s p ps o ks).ps = ps := rfl
 rw [bt.af9]
 simp only [x4, xm]
 unfold pt at hb ⊢
 simp only [List.length_cons, List.length_append, List.length_nil] at hb
 rw [hx, an (tg e1), y0, cf, gW (by omega), guT, gW (by simp; omega), guT, an (tg e1)]
 simp only [z1, z2, z3, z4, z5, z6, z7, adb]
 rw [hk _ (List.getElem_mem hi), ab, cf, gW (by simp; omega), guT, gW (by simp; omega), guT, aj (by omega)]
 simp [List.append_assoc]
def azi (acc : Bs) : Option AV := ifB (o && decide ((0 : Int) < (ps.length : Int))) (bt.j3 (.boxv 7 (bh (.mk 10 n s p ps o ks)) []) (.str (acc ++ [32]))) (bt.j3 (.boxv 7 (bh (.mk 10 n s p ps o ks)) []) (.str acc))
omit hk hl in
theorem a3g (acc : Bs) (i : Nat) (hi : ps.length ≤ i) (hb : acc.length ≤ 1099511000000) : bt.l0 (.boxv 7 (bh (.mk 10 n s p ps o ks)) []) (.str acc) (.int .i64 (i : Int)) = azi n s p ps o ks acc := by
 have hx : (Ex.mk 10 n s p ps o ks).ps = ps := rfl
 have ho : (Ex.mk 10 n s p ps o ks).o = o := rfl
 rw [bt.ai]
 simp only [x4, x5, bq, xm, kx]
 rw [hx, ho, decide_eq_false (by omega), ifF]
 rw [show (ifB o (some (decide ((0 : Int) < (ps.length : Int)))) (some false) : Option Bool) = some (o && decide ((0 : Int) < (ps.length : Int))) by cases o <;> rfl, ab, gW (by simp; omega), guT]
 rfl
theorem p_l : ∀ (d i : Nat) (acc : Bs), i + d = ps.length → 1 ≤ i → acc.length + Lib.lens (ny (ps.drop i)) + d ≤ 1099511000000 →
  bt.l0 (.boxv 7 (bh (.mk 10 n s p ps o ks)) []) (.str acc) (.int .i64 (i : Int)) = azi n s p ps o ks (acc ++ Lib.joinTail [32] (ny (ps.drop i)))
 | 0, i, acc, hi, h1, hb => by
  rw [a3g n s p ps o ks acc i (by omega) (by omega), bc (by omega), ny, ami, List.append_nil]
 | d + 1, i, acc, hi, h1, hb => by
  have hil : i < ps.length := by omega
  have hx : (Ex.mk 10 n s p ps o ks).ps = ps := rfl
  rw [au hil, aek, vr] at hb
  rw [bt.ai]
  simp only [x4, xm, kx]
  rw [hx, decide_eq_true (by omega), ifT, decide_eq_true (by omega), ifT, gW (by simp; omega), guT]
  rw [bag n s p ps o ks hk hl (acc ++ [32]) i hil (by rw [List.length_append, List.length_singleton]; omega)]
  rw [p_l d (i + 1) (acc ++ [32] ++ pt ps[i]) (by omega) (by omega) (by rw [List.length_append, List.length_append, List.length_singleton]; omega)]
  rw [au hil, aek, ai9]
  simp [List.append_assoc]
omit hk hl in
theorem bf6 (sep : Bs) (a b : List Bs) : Lib.joinTail sep (a ++ b) = Lib.joinTail sep a ++ Lib.joinTail sep b := by simp [Lib.joinTail]
omit hk hl in
theorem azj (acc : Bs) (hb : acc.length ≤ 1099511000000) : bt.j3 (.boxv 7 (bh (.mk 10 n s p ps o ks)) []) (.str acc) = some (.str (123 :: ((acc ++ if o = true then [46, 46, 46] else []) ++ [125]))) := by
 have ho : (Ex.mk 10 n s p ps o ks).o = o := rfl
 rw [bt.bij]
 simp only [x5, bq]
 rw [ho]
 cases o with
 | true => rw [ifT, gW (by simp; omega), guT, gW (by simp; omega), guT, gW (by simp; omega), guT]; simp
 | false => rw [ifF, gW (by simp; omega), guT, gW (by simp; omega), guT]; simp
theorem bix (hb : Lib.lens (ny ps) + ps.length ≤ 1099510000000) : bt.l0 (.boxv 7 (bh (.mk 10 n s p ps o ks)) []) (.str []) (.int .i64 0) = some (.str (123 :: (Lib.join (ny ps ++ (if o = true then [[46, 46, 46]] else [])) [32] ++ [125]))) := by
 by_cases h0 : ps.length = 0
 ·have hz := List.eq_nil_of_length_eq_zero h0
  have h := a3g n s p ps o ks [] 0 (by omega) (by simp)
  refine h.trans ?_
  unfold azi
  rw [decide_eq_false (by omega), Bool.and_false, ifF, azj n s p ps o ks [] (by simp), hz, ny]
  cases o <;> rfl
 ·have hil : 0 < ps.length := by omega
  have hx : (Ex.mk 10 n s p ps o ks).ps = ps := rfl
  have hc := au hil
  rw [List.drop_zero] at hc
  have ht : ny ps = pt ps[0] :: ny (ps.drop 1) := by
   conv => lhs; rw [hc, aek]
  have hjl := Lib.joinTail_length [32] (ny (ps.drop 1))
  rw [vt, List.length_drop, List.length_singleton] at hjl
  rw [ht, vr] at hb
  rw [bt.ai]
  simp only [x4, xm, kx]
  rw [hx, decide_eq_true (by omega), ifT, show decide ((0 : Int) < 0) = false from rfl, ifF]
  have h4 := bag n s p ps o ks hk hl [] 0 hil (by simp; omega)
  refine h4.trans ?_
  rw [p_l n s p ps o ks hk hl (ps.length - 1) (0 + 1) _ (by omega) (by omega) (by simp only [List.nil_append]; rw [Nat.zero_add]; omega), List.nil_append, Nat.zero_add]
  unfold azi
  rw [decide_eq_true (by omega), Bool.and_true]
  have hlen : (pt ps[0] ++ Lib.joinTail [32] (ny (List.drop 1 ps))).length ≤ 1099510000000 := by rw [List.length_append, hjl]; omega
  rw [azj n s p ps o ks _ (by rw [List.length_append, List.length_singleton]; omega), azj n s p ps o ks _ (by omega), ht, List.cons_append, Lib.join_cons, bf6]
  cases o with
  | true =>
   rw [ifT, if_pos rfl, if_pos rfl, ai9, ami]
   simp [List.append_assoc]
  | false =>
   rw [ifF, if_neg (by simp), if_neg (by simp), ami]
   simp [List.append_assoc]
end
theorem aju {ps : List Pr} (hr : ri (ps.map Pr.n) = true) (hp : ∀ q ∈ ps, GX q.e) : Lib.lens (ny ps) + 13 * ps.length ≤ 2048 * vo ps :=
 aoe ps (fun q hm => aa5 q.e (hp q hm)) (fun q hm => ai8 hr q.n (List.mem_map_of_mem hm))
theorem ajv (op : Int) {ks : List Ex} (hk : ∀ k ∈ ks, GX k) : Lib.lens (nj op ks) + 30 * ks.length ≤ 2048 * tj ks :=
 aod op ks fun k hm => aa5 k (hk k hm)
theorem aof (e : Ex) (h : GX e) (hz : szE e ≤ 268435456) : bt (.agg 7 (bh e)) = some (.str (txE e)) := by
 rw [bt.ae, x0, bf]
 cases h with
 | nu op n h hn =>
  have hi := akn (n := n) (by omega)
  have hT : ni (.int .i64 n) = some (.str (Lib.itoa n)) := a71 ⟨by omega, by omega⟩
  rw [abd, show (lf op n).op = op from rfl]
  have g1 : Nat.ble ([(62 : UInt8), 61].length + (Lib.itoa n).length) lim = true := gW (by simp; omega)
  have g2 : Nat.ble ([(60 : UInt8), 61].length + (Lib.itoa n).length) lim = true := gW (by simp; omega)
  simp only [x1, bf, show (lf op n).n = n from rfl, hT, ab, cf]
  rcases h with rfl | rfl | rfl
  ·rfl
  ·show aq (Nat.ble ([(62 : UInt8), 61].length + (Lib.itoa n).length) lim) (some (AV.str ([62, 61] ++ Lib.itoa n))) = _
   rw [g1]; rfl
  ·show aq (Nat.ble ([(60 : UInt8), 61].length + (Lib.itoa n).length) lim) (some (AV.str ([60, 61] ++ Lib.itoa n))) = _
   rw [g2]; rfl
 | tx s h =>
  simp only [x2, cf]
  have hQ : gi (.str s) = some (.str (aa2 s)) := bf2 s (by omega)
  rw [show (Ex.mk 2 0 s [] [] false []).s = s from rfl, hQ, ab, cf, txE]
  rfl
 | bo n h =>
  simp only [x1, bf]
  rcases h with rfl | rfl <;> (rw [abd]; rfl)
 | ki n h =>
  simp only [x1, bf]
  rw [show (lf 4 n).n = n from rfl, a3e n h, ab, cf, abd]
  rfl
 | ze op h =>
  rw [abd]
  rcases h with rfl | rfl <;> rfl
 | st ps o h hr hp =>
  have hb := aju hr hp
  rw [szE] at hz
  have hx := bix 0 [] [] ps o [] (fun q hm => have := ame (e := .mk 10 0 [] [] ps o []) hm; aof q.e (hp q hm) (by rw [szE] at this; omega)) (by omega) (by omega)
  rw [show (Ex.mk 10 0 [] [] ps o []).op = 10 from rfl]
  rw [txE]
  exact hx
 | ks op h ks h1 h2 hk =>
  have hb := ajv op hk
  rw [szE] at hz
  have hx := biw op 0 [] [] [] false ks h (fun k hm => have := amd (e := .mk op 0 [] [] [] false ks) hm; aof k (hk k hm) (by rw [szE] at this; omega)) (by omega) (by omega) (by omega)
  rw [show (Ex.mk op 0 [] [] [] false ks).op = op from rfl]
  rcases h with rfl | rfl
  ·rw [txE]; exact hx
  ·rw [txE]; exact hx
termination_by szE e
end Go.Proofs.YtmdimhcjogjcgaaGreatDoor.Xp
