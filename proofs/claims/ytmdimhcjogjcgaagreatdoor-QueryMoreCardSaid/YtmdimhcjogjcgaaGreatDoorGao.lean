/- Few terms: a bound on how large a value is. -/
import Derived.Test.YtmdimhcjogjcgaaGreatDoorGan
import Derived.Maps.OwnSet
import Derived.Sort.KeysCollected
import Derived.StringKeys
import Derived.Test.YtmdimhcjogjcgaaGreatDoorGac
import Derived.Shelf.Spec.SearchS
set_option linter.all false
noncomputable section
namespace Go.Proofs.YtmdimhcjogjcgaaGreatDoor.Lat
open Go.Proofs.YtmdimhcjogjcgaaGreatDoor.Abs
def Left (v : List Tm) : Prop := ∀ d n : Int, 0 ≤ d → d ≤ 20 → -1 ≤ n → n ≤ 200 → ∃ r : Int, bt (.agg 1 [.sl 8 (ak v)]) (.int .i64 d) (.int .i64 n) = some (.int .i64 r) ∧ -1 ≤ r ∧ r ≤ n ∧ (0 ≤ r → (szV v : Int) ≤ 101 * (n - r))
theorem an7 (D : Int) (hD : 1 ≤ D ∧ D ≤ 20) (c3 : List AV) (n4 : Int) (t : Tm) (hl : t.fs.length ≤ 100) (h : ∀ f ∈ t.fs, Left f.v) :
    ∀ (d i : Nat) (n : Int), i + d = t.fs.length → -1 ≤ n → n ≤ 200 → ∃ r : Int, -1 ≤ r ∧ r ≤ n ∧ (0 ≤ r → (szF (t.fs.drop i) : Int) ≤ 101 * (n - r) + d) ∧
      (bt.l1 (.int .i64 D) (.int .i64 n) (.boxv 1 c3 []) (.int .i64 n4) (.boxv 8 (ah t) []) (.int .i64 (i : Int)) = bt.l0 (.int .i64 D) (.int .i64 r) (.boxv 1 c3 []) (.int .i64 (w64 (n4 + 1))) ∨
       r = -1 ∧ bt.l1 (.int .i64 D) (.int .i64 n) (.boxv 1 c3 []) (.int .i64 n4) (.boxv 8 (ah t) []) (.int .i64 (i : Int)) = some (.int .i64 (-1)))
  | 0, i, n, hi, h1n, h2n => by
    refine ⟨n, h1n, Int.le_refl _, fun _ => by rw [bw (by omega), szF]; omega, .inl ?_⟩
    rw [bt.ib]
    simp only [g7, lx, ed, j8, ad]
    rw [decide_eq_false (by omega), Bool.false_and, ifF]
  | d + 1, i, n, hi, h1n, h2n => by
    have h1' : i < t.fs.length := by omega
    have e1 : t.fs[i]? = some t.fs[i] := List.getElem?_eq_getElem h1'
    by_cases hn : 0 ≤ n
    · by_cases hnm : 100 < t.fs[i].n.length
      · refine ⟨-1, by omega, by omega, fun h => by omega, .inr ⟨rfl, ?_⟩⟩
        rw [bt.ib]
        simp only [g7, lx, ed, j8, ad, ay (fo e1), h0, gx]
        rw [decide_eq_true (p := (i : Int) < (t.fs.length : Int)) (by omega), decide_eq_true hn, Bool.and_self, ifT, decide_eq_true (by omega), ifT]
      · obtain ⟨r1, q1, q2, q3, q4⟩ := h _ (List.getElem_mem h1') (D - 1) n (by omega) (by omega) h1n h2n
        obtain ⟨r, p1, p2, p3, p4⟩ := an7 D hD c3 n4 t hl h d (i + 1) r1 (by omega) q2 (by omega)
        have he : bt.l1 (.int .i64 D) (.int .i64 n) (.boxv 1 c3 []) (.int .i64 n4) (.boxv 8 (ah t) []) (.int .i64 (i : Int)) = bt.l1 (.int .i64 D) (.int .i64 r1) (.boxv 1 c3 []) (.int .i64 n4) (.boxv 8 (ah t) []) (.int .i64 ((i + 1 : Nat) : Int)) := by
          rw [bt.ib]
          simp only [g7, lx, ed, j8, ad, ay (fo e1), h0, h1, gx]
          rw [decide_eq_true (p := (i : Int) < (t.fs.length : Int)) (by omega), decide_eq_true hn, Bool.and_self, ifT, decide_eq_false (by omega), ifF, xn (n := D - 1) (by omega), q1]
          simp only [ad, dn]
          rw [bf (by omega)]
        refine ⟨r, p1, by omega, fun hr => ?_, ?_⟩
        · have := p3 hr
          have := q4 (by omega)
          rw [bc h1']
          have hz : szF (t.fs[i] :: t.fs.drop (i + 1)) = 1 + szV t.fs[i].v + szF (t.fs.drop (i + 1)) := by generalize t.fs[i] = f; cases f; rfl
          rw [hz]; omega
        · rcases p4 with p4 | p4
          · exact .inl (he.trans p4)
          · exact .inr ⟨p4.1, he.trans p4.2⟩
    · refine ⟨n, h1n, Int.le_refl _, fun h => by omega, .inl ?_⟩
      rw [bt.ib]
      simp only [g7, lx, ed, j8, ad]
      rw [decide_eq_false hn, Bool.and_false, ifF]
theorem an8 (v : List Tm) (h : ∀ t ∈ v, ∀ f ∈ t.fs, Left f.v) (D : Int) (hD : 1 ≤ D ∧ D ≤ 20) :
  ∀ (d i : Nat) (n : Int), i + d = v.length → -1 ≤ n → n ≤ 200 → (i : Int) + n ≤ 200 → ∃ r : Int, bt.l0 (.int .i64 D) (.int .i64 n) (.boxv 1 [.sl 8 (ak v)] []) (.int .i64 (i : Int)) = some (.int .i64 r) ∧ -1 ≤ r ∧ r ≤ n ∧ (0 ≤ r → (szV (v.drop i) : Int) ≤ 101 * (n - r))
 | 0, i, n, hi, h1n, h2n, hin => by
  refine ⟨n, ?_, h1n, Int.le_refl _, fun _ => by rw [bw (by omega), szV]; omega⟩
  rw [bt.ar]
  simp only [v0, jr, di, j8, ad]
  rw [decide_eq_false (by omega), Bool.false_and, ifF]
 | d + 1, i, n, hi, h1n, h2n, hin => by
  have h1' : i < v.length := by omega
  have e1 : v[i]? = some v[i] := List.getElem?_eq_getElem h1'
  by_cases hn : 0 ≤ n
  ·by_cases hbig : 400 < v[i].s.length ∨ 100 < v[i].fs.length
   ·refine ⟨-1, ?_, by omega, by omega, fun h => by omega⟩
    rw [bt.ar]
    simp only [v0, jr, di, j8, orK, ad, ay (jc e1), g3, g7, gx, lx, ed]
    have hb : (decide ((400 : Int) < (v[i].s.length : Int)) || decide ((100 : Int) < (v[i].fs.length : Int))) = true := by
     rw [Bool.or_eq_true, decide_eq_true_eq, decide_eq_true_eq]; omega
    rw [decide_eq_true (p := (i : Int) < (v.length : Int)) (by omega), decide_eq_true hn, Bool.and_self, ifT, hb, ifT]
   ·obtain ⟨r1, p1, p2, p3, p4⟩ := an7 D hD [.sl 8 (ak v)] (i : Int) v[i] (by omega) (h _ (List.getElem_mem h1')) v[i].fs.length 0 (n - 1) (by omega) (by omega) (by omega)
    rw [List.drop_zero] at p3
    rw [e00] at p4
    have he : bt.l0 (.int .i64 D) (.int .i64 n) (.boxv 1 [.sl 8 (ak v)] []) (.int .i64 (i : Int)) = bt.l1 (.int .i64 D) (.int .i64 (n - 1)) (.boxv 1 [.sl 8 (ak v)] []) (.int .i64 (i : Int)) (.boxv 8 (ah v[i]) []) (.int .i64 0) := by
     rw [bt.ar]
     simp only [v0, jr, di, j8, orK, ad, ay (jc e1), g3, g7, gx, lx, ed]
     have hb : (decide ((400 : Int) < (v[i].s.length : Int)) || decide ((100 : Int) < (v[i].fs.length : Int))) = false := by
      rw [decide_eq_false (by omega), decide_eq_false (by omega)]; rfl
     rw [decide_eq_true (p := (i : Int) < (v.length : Int)) (by omega), decide_eq_true hn, Bool.and_self, ifT, hb, ifF, xn (by omega)]
    have hz : szV (v[i] :: v.drop (i + 1)) = 1 + szF v[i].fs + szV (v.drop (i + 1)) := by rw [szV, fq]
    have hd : v.drop i = v[i] :: v.drop (i + 1) := bc h1'
    rcases p4 with p4 | ⟨p5, p4⟩
    ·obtain ⟨r, q1, q2, q3, q4⟩ := an8 v h D hD d (i + 1) r1 (by omega) p1 (by omega) (by omega)
     refine ⟨r, ?_, q2, by omega, fun hr => ?_⟩
     ·rw [he, p4, bf (by omega), q1]
     ·have := q4 hr
      have := p3 (by omega)
      rw [hd, hz]; omega
    ·exact ⟨-1, he.trans p4, by omega, by omega, fun h => by omega⟩
  ·refine ⟨n, ?_, h1n, Int.le_refl _, fun h => by omega⟩
   rw [bt.ar]
   simp only [v0, jr, di, j8, ad]
   rw [decide_eq_false hn, Bool.and_false, ifF]
theorem an9 (v : List Tm) : Left v := by
  intro d n h1d h2d h1n h2n
  rw [bt.ae]
  simp only [v0, jr, di, orK, ad]
  by_cases h0 : d = 0 ∨ n < (v.length : Int)
  ·refine ⟨-1, ?_, by omega, by omega, fun h => by omega⟩
   have hb : (decide (d = 0) || decide (n < (v.length : Int))) = true := by rw [Bool.or_eq_true, decide_eq_true_eq, decide_eq_true_eq]; exact h0
   rw [hb, ifT]
  ·have hb : (decide (d = 0) || decide (n < (v.length : Int))) = false := by rw [decide_eq_false (by omega), decide_eq_false (by omega)]; rfl
   rw [hb, ifF]
   obtain ⟨r, q1, q2, q3, q4⟩ := an8 v (fun t ht f hf => an9 f.v) d ⟨by omega, h2d⟩ v.length 0 n (by omega) h1n h2n (by omega)
   exact ⟨r, q1, q2, q3, q4⟩
termination_by szV v
decreasing_by have := qb ht hf; omega
theorem a2r (v : List Tm) : ∃ b, ux (.agg 1 [.sl 8 (ak v)]) = some (.bool b) ∧ (b = true → szV v ≤ 1073741824) := by
 obtain ⟨r, q1, q2, q3, q4⟩ := an9 v 20 200 (by omega) (by omega) (by omega) (by omega)
 rw [ux.ae, yo.ae, q1]
 simp only [ad, dn, en]
 by_cases hr : 0 ≤ r
 ·have hz : szV v ≤ 1073741824 := by have := q4 hr; omega
  rw [decide_eq_true hr, ifT, aru 1073741824 v hz (Nat.le_refl _)]
  exact ⟨_, rfl, fun _ => hz⟩
 ·rw [decide_eq_false hr, ifF]
  exact ⟨_, rfl, fun h => by cases h⟩
structure Th where
 n : Bs
 v : List Tm
 d : List Bs
def br (d : List Bs) : List (List AV) := d.map fun s => [AV.str s]
def ui (t : Th) : List AV := [.str t.n, .sl 8 (ak t.v), .sl 1 (br t.d)]
def cf (ts : List Th) : List (List AV) := ts.map ui
theorem j4 {d : List Bs} {i : Nat} {s : Bs} (h : d[i]? = some s) : (br d)[i]? = some [AV.str s] := by rw [br, List.getElem?_map, h]; rfl
theorem df (d : List Bs) : (br d).length = d.length := by simp [br]
theorem ir {ts : List Th} {i : Nat} {t : Th} (h : ts[i]? = some t) : (cf ts)[i]? = some (ui t) := by rw [cf, List.getElem?_map, h]; rfl
theorem pa (ts : List Th) : (cf ts).length = ts.length := by simp [cf]
theorem th0 {α : Type} (t : Th) (k : AV → Option α) : ab (ui t) 0 k = k (.str t.n) := rfl
theorem th1 {α : Type} (t : Th) (k : AV → Option α) : ab (ui t) 1 k = k (.sl 8 (ak t.v)) := rfl
theorem th2 {α : Type} (t : Th) (k : AV → Option α) : ab (ui t) 2 k = k (.sl 1 (br t.d)) := rfl
theorem ac8 {α : Type} (l : List (List AV)) (k : List (List AV) → Option α) : asL 1 (.sl 1 l) k = k l := rfl
theorem aav {α : Type} (s : Bs) (k : AV → Option α) : ab [AV.str s] 0 k = k (.str s) := rfl
def ixB : List Bs → Bs → Nat → Int
 | [], _, _ => -1
 | x :: r, s, i => if x = s then (i : Int) else ixB r s (i + 1)
theorem ag7 : ∀ (l : List Bs) (s : Bs) (i : Nat), 0 ≤ ixB l s i ↔ s ∈ l
 | [], s, i => by simp [ixB]
 | x :: r, s, i => by
  unfold ixB
  split
  ·rename_i h; subst h; simp
  ·rename_i h
   rw [ag7 r s (i + 1), List.mem_cons]
   constructor
   ·exact .inr
   ·rintro (e | e)
    ·exact absurd e.symm h
    ·exact e
def avj (l : List (List AV)) (ns : List Bs) : Prop := l.length = ns.length ∧ ∀ (i : Nat) (n : Bs), ns[i]? = some n → ∃ a b, l[i]? = some [.str n, a, b]
theorem a2s (ts : List Th) : avj (cf ts) (ts.map (·.n)) := ⟨by simp [cf], fun i n h => by
 rw [List.getElem?_map] at h
 cases ht : ts[i]? with
 | none => rw [ht] at h; cases h
 | some t => rw [ht] at h; cases h; exact ⟨_, _, ir ht⟩⟩
theorem afi (l : List (List AV)) (ns : List Bs) (hn : avj l ns) (hl : ns.length ≤ 1073741824) (s : Bs) : ∀ (d i : Nat), i + d = ns.length → cg.l0 (.sl 3 l) (.fn 80 [.eptr 1 [.str s] 0]) (.int .i64 (l.length : Int)) (.int .i64 (i : Int)) = some (.int .i64 (ixB (ns.drop i) s i))
 | 0, i, h => by rw [cg.ar, hn.1, decide_eq_false (by omega), ifF, bw (by omega)]; rfl
 | d + 1, i, h => by
  have h1' : i < ns.length := by omega
  obtain ⟨a, b, e1⟩ := hn.2 i ns[i] (List.getElem?_eq_getElem h1')
  have hc : ag S 80 ([AV.agg 3 [.str ns[i], a, b]] ++ [.eptr 1 [.str s] 0]) = some (.bool (decide (ns[i] = s))) := by
   have : sg (.agg 3 [.str ns[i], a, b]) (.eptr 1 [.str s] 0) = some (.bool (decide (ns[i] = s))) := by rw [sg.ae]; rfl
   exact this
  have ih := afi l ns hn hl s d (i + 1) (by omega)
  rw [cg.ar, decide_eq_true (by rw [hn.1]; omega), ifT, ay e1, hc, bc h1']
  simp only [ad, en]
  unfold ixB
  by_cases hs : ns[i] = s
  ·rw [decide_eq_true hs, ifT, if_pos hs]
  ·rw [decide_eq_false hs, ifF, if_neg hs, bf (by omega), ih]
theorem avk (l : List (List AV)) (ns : List Bs) (hn : avj l ns) (hl : ns.length ≤ 1073741824) (s : Bs) : sf (.sl 3 l) (.str s) = some (.int .i64 (ixB ns s 0)) := by
 have := afi l ns hn hl s ns.length 0 (by omega)
 rw [sf.ae, cg.ae]
 rw [e00, List.drop_zero] at this
 rw [this]; rfl
theorem apj (ts : List Th) (hl : ts.length ≤ 1073741824) (s : Bs) : sf (.sl 3 (cf ts)) (.str s) = some (.int .i64 (ixB (ts.map (·.n)) s 0)) := avk _ _ (a2s ts) (by simpa using hl) s
theorem ak9 (d : List Bs) (hl : d.length ≤ 1073741824) (s : Bs) : ∀ (k i : Nat), i + k = d.length → cx.l0 (.sl 1 (br d)) (.str s) (.int .i64 (d.length : Int)) (.int .i64 (i : Int)) = some (.int .i64 (ixB (d.drop i) s i))
 | 0, i, h => by rw [cx.ar, decide_eq_false (by omega), ifF, bw (by omega)]; rfl
 | k + 1, i, h => by
  have h1' : i < d.length := by omega
  have e1 : d[i]? = some d[i] := List.getElem?_eq_getElem h1'
  have ih := ak9 d hl s k (i + 1) (by omega)
  rw [cx.ar, decide_eq_true (by omega), ifT, ay (j4 e1), aav, bc h1']
  simp only [gx]
  unfold ixB
  by_cases hs : d[i] = s
  ·rw [decide_eq_true hs.symm, ifT, if_pos hs]
  ·rw [decide_eq_false (fun e => hs e.symm), ifF, if_neg hs, bf (by omega), ih]
theorem am8 (d : List Bs) (hl : d.length ≤ 1073741824) (s : Bs) : ia (.sl 1 (br d)) (.str s) = some (.bool (decide (s ∈ d))) := by
 have := ak9 d hl s d.length 0 (by omega)
 rw [e00, List.drop_zero] at this
 rw [ia.ae, cx.ae, df, this]
 simp only [ad, dn]
 congr 2
 exact decide_eq_decide.2 (ag7 d s 0)
def fsD (d : List Bs) : List Fd := d.map fun s => .mk s []
theorem ayp (d : List Bs) : ag2 (fsD d) = br d := by simp [ag2, fsD, br, Fd.n]
def aaw (d : List Bs) : Bool := ij Rn none (fsD d)
theorem aih (fs : List Fd) (hl : fs.length ≤ 1073741824) : ∀ (d i : Nat), i + d = fs.length → fz.l0 (.sl 1 (ag2 fs)) (.sl 1 (ag2 fs)) (.int .i64 (fs.length : Int)) (.int .i64 (i : Int)) = some (.bool (ij Nam.ek (uh fs i) (fs.drop i)))
 | 0, i, h => by
  rw [fz.ar, decide_eq_false (by omega), ifF, bw (by omega)]; rfl
 | d + 1, i, h => by
  have h1' : i < fs.length := by omega
  have e1 : fs[i]? = some fs[i] := List.getElem?_eq_getElem h1'
  have ih := aih fs hl d (i + 1) (by omega)
  rw [afg e1] at ih
  rw [fz.ar, decide_eq_true (by omega), ifT, bc h1', aby]
  simp only [ay (an1 e1), ow, gx, aas, ad, en]
  rw [bf (by omega), ih]
  by_cases hi0 : i = 0
  ·subst hi0
   rw [e00, decide_eq_false (by omega), ifF]
   simp only [orK, ad]
   cases Nam.ek fs[0].n <;> simp [ifT, ifF, uh, ub]
  ·have e2 : fs[i - 1]? = some fs[i - 1] := List.getElem?_eq_getElem (by omega)
   rw [decide_eq_true (by omega), ifT, tm (by omega) (by omega)]
   simp only [ay (an1 e2), ow, gx, ad, orK]
   have : uh fs i = some fs[i - 1].n := by unfold uh; rw [if_neg hi0, e2]; rfl
   rw [this, ub]
   have hb : (ai fs[i].n fs[i - 1].n || decide (fs[i].n = fs[i - 1].n)) = !ai fs[i - 1].n fs[i].n := by
    cases h1 : ai fs[i - 1].n fs[i].n with
    | true =>
     rw [aae _ _ h1, Bool.false_or, Bool.not_true]
     exact decide_eq_false fun e => by rw [e, ic] at h1; cases h1
    | false =>
     cases h2 : ai fs[i].n fs[i - 1].n with
     | true => rfl
     | false => rw [Bool.false_or, Bool.not_false]; exact decide_eq_true (qz _ _ h2 h1)
   rw [hb]
   cases Nam.ek fs[i].n <;> cases ai fs[i - 1].n fs[i].n <;> simp [ifT, ifF]
theorem ayq (d : List Bs) (hl : d.length ≤ 1073741824) : fz (.sl 1 (br d)) = some (.bool (aaw d)) := by
 have := aih (fsD d) (by simpa [fsD] using hl) (fsD d).length 0 (by omega)
 rw [e00, List.drop_zero, ayp] at this
 rw [fz.ae, df]
 rw [show ((fsD d).length : Int) = (d.length : Int) by simp [fsD]] at this
 exact this
theorem gOK {a b : List (List AV)} (h : a.length + b.length ≤ 1073741824) : Nat.ble (a.length + b.length) lim = true := by
 rw [Nat.ble_eq]; unfold lim; omega
theorem ala (a : List Bs) (s : Bs) : br a ++ [[AV.str s]] = br (a ++ [s]) := by simp [br]
end Go.Proofs.YtmdimhcjogjcgaaGreatDoor.Lat
namespace Go.Proofs.YtmdimhcjogjcgaaGreatDoor.Mp
open Go.Maps Go.RowKit Go.ChangeMaps Go.WideElems Go.WideMaps
abbrev Ks := List UInt8
def tn (v : Value) : Option (DataW Value × List MemPlace) := some (.held v, [])
def ql (D : DataW Value) (s : Ks) : Option Value := if has D (.string s) = true then (match D.atKey (.string s) .nil with | .held v => some v | _ => none) else none
def upd {α : Type} (f : Ks → Option α) (s : Ks) (o : Option α) : Ks → Option α := fun x => if x = s then o else f x
theorem jf {α : Type} (f : Ks → Option α) (s : Ks) (o : Option α) : upd f s o s = o := by simp [upd]
theorem pc {α : Type} (f : Ks → Option α) {s x : Ks} (o : Option α) (h : x ≠ s) : upd f s o x = f x := by simp [upd, h]
theorem afj {D : DataW Value} {k : Lit} (h : has D k = true) (z z' : DataW Value) : D.atKey k z = D.atKey k z' := by
 cases D <;> first | (simp [has] at h; done) | skip
 rename_i es
 simp only [has] at h
 simp only [DataW.atKey]
 cases hf : es.find? (fun p => p.1.sameKey k) with
 | some p => rfl
 | none =>
  rw [List.find?_eq_none] at hf
  rw [List.any_eq_true] at h
  obtain ⟨p, hp, hk⟩ := h
  exact absurd hk (hf p hp)
def fh (P : Program) (k : TypeId) (w : World) (b n : Nat) (f : Ks → Option Value) : Prop := ∃ D, w.ownsMap P k tn b n D ∧ f = ql D
section
variable {P : Program} {k e t : TypeId} {w : World} {b n : Nat} {f : Ks → Option Value}
theorem fh.lt (h : fh P k w b n f) : b < w.heap.size := by obtain ⟨D, h, _⟩ := h; exact h.lt
theorem fh.blk (h : fh P k w b n f) : ∃ es clock, w.heap[b]? = some (.map es clock) := by obtain ⟨D, ⟨es, clock, h, _⟩, _⟩ := h; exact ⟨es, clock, h⟩
theorem fh.mono (h : fh P k w b n f) {m : Nat} (hm : n ≤ m) : fh P k w b m f := by obtain ⟨D, h, hf⟩ := h; exact ⟨D, h.mono hm, hf⟩
theorem fh.uj {w' : World} (h : fh P k w b n f) (he : w'.heap[b]? = w.heap[b]?) : fh P k w' b n f := by
 obtain ⟨D, ⟨es, clock, h1, h2, h3, h4⟩, hf⟩ := h
 exact ⟨D, ⟨es, clock, he.trans h1, h2, h3, h4⟩, hf⟩
theorem fh.made (P : Program) (k : TypeId) (w : World) : fh P k (w.alloc (.map #[] 0)) w.heap.size 0 fun _ => none := ⟨.map [], World.ownsMap_made w P k tn, by funext s; simp [ql, has]⟩
variable (hk : P.underlying k = some .string) (ht : P.underlying t = some (.map k e))
include hk ht
theorem fh.look (h : fh P k w b n f) {z : Value} (hz : (zeroValue e).run P w = .ok z w) (s : ByteArray) (hs : s.size ≤ maxLen) :
  (Instr.lookup t (.map (some b)) (.string s) true).run P w = .ok (.tuple #[(f s.data.toList).getD z, .bool (f s.data.toList).isSome]) w := by
 obtain ⟨D, h, rfl⟩ := h
 obtain ⟨v, ps, hrun, hR⟩ := h.look_ok (string_keyed hk) ht hz (zd := .held z) (zp := []) rfl (keyOf_string_mk hk hs)
 rw [hrun]
 simp only [tn, Option.some.injEq, Prod.mk.injEq] at hR
 unfold ql
 cases hh : has D (.string s.data.toList) with
 | false =>
  have h1 := hR.1
  rw [atKey_of_not_has hh] at h1
  cases h1
  simp
 | true =>
  have h1 := hR.1
  rw [afj hh (.held z) .nil] at h1
  simp [← h1]
theorem fh.apk (h : fh P k w b n f) {z : Value} (hz : (zeroValue e).run P w = .ok z w) (s : ByteArray) (hs : s.size ≤ maxLen) :
  (Instr.lookup t (.map (some b)) (.string s) false).run P w = .ok ((f s.data.toList).getD z) w := by
 obtain ⟨D, h, rfl⟩ := h
 obtain ⟨v, ps, hrun, hR⟩ := h.lookup (string_keyed hk) ht hz (zd := .held z) (zp := []) rfl (keyOf_string_mk hk hs)
 rw [hrun]
 simp only [tn, Option.some.injEq, Prod.mk.injEq] at hR
 unfold ql
 cases hh : has D (.string s.data.toList) with
 | false =>
  have h1 := hR.1
  rw [atKey_of_not_has hh] at h1
  cases h1
  simp
 | true =>
  have h1 := hR.1
  rw [afj hh (.held z) .nil] at h1
  simp [← h1]
omit hk ht in
theorem avl {D : DataW Value} (hD : IsMap D) (s : Ks) (v : Value) : ql (D.put (.string s) (.held v)) = upd (ql D) s (some v) := by
 funext x
 unfold ql upd
 by_cases hx : x = s
 ·subst hx
  rw [if_pos rfl, has_put_same hD (by simp [WideAt.IsKeyLit]) _, atKey_put_same hD (by simp [WideAt.IsKeyLit])]
  simp
 ·have hne : Lit.string x ≠ Lit.string s := fun c => hx (by cases c; rfl)
  rw [if_neg hx, has_put_other hne, atKey_put_other hne]
omit hk ht in
theorem avm {D : DataW Value} (s : Ks) : ql (D.del (.string s)) = upd (ql D) s none := by
 funext x
 unfold ql upd
 by_cases hx : x = s
 ·subst hx
  rw [if_pos rfl, has_del_same]
  simp
 ·have hne : Lit.string x ≠ Lit.string s := fun c => hx (by cases c; rfl)
  rw [if_neg hx, has_del_other hne, atKey_del_other hne]
theorem fh.store (h : fh P k w b n f) (hn : n < maxLen) (s : ByteArray) (hs : s.size ≤ maxLen) (v : Value) :
  ∃ w', (Instr.mapUpdate t (.map (some b)) (.string s) v).run P w = .ok () w' ∧ fh P k w' b (n + 1) (upd f s.data.toList (some v)) ∧ w.mapTurned w' b := by
 obtain ⟨D, h, rfl⟩ := h
 obtain ⟨w', h1, h2, h3⟩ := h.store (string_keyed hk) ht hn (keyOf_string_mk hk hs) (d := .held v) (ps := []) (val := v) rfl
 exact ⟨w', h1, ⟨_, h2, (avl h.isMap _ _).symm⟩, h3⟩
theorem fh.drop (h : fh P k w b n f) (s : ByteArray) (hs : s.size ≤ maxLen) (ty : TypeId) :
  ∃ w', (Builtin.delete_ #[t, k] ty #[.map (some b), .string s]).run P w = .ok (.tuple #[]) w' ∧ fh P k w' b n (upd f s.data.toList none) ∧ w.mapTurned w' b := by
 obtain ⟨D, h, rfl⟩ := h
 obtain ⟨w', h1, h2, h3⟩ := h.drop (string_keyed hk) ht (keyOf_string_mk hk hs) ty
 exact ⟨w', h1, ⟨_, h2, (avm _).symm⟩, h3⟩
omit ht in
theorem mem_keys {D : DataW Value} (h : w.ownsMap P k tn b n D) (s : Ks) : s ∈ strKeys D ↔ ql D s ≠ none := by
 obtain ⟨es, clock, hb, F, hs, rfl⟩ := h
 have hkeys : ∀ p ∈ (es.toList.map (rg P k tn)).foldr DataW.insert [], (∃ x, p.1 = .string x) ∧ ∃ v, p.2 = .held v := by
  intro p hp
  have hm : p ∈ es.toList.map (rg P k tn) := mem_sorted.1 hp
  obtain ⟨x, hx, rfl⟩ := List.mem_map.1 hm
  obtain ⟨y, hy⟩ := F.reads x hx
  have h1 := WideElems.rd_key hy
  obtain ⟨z, h2, h3⟩ := WideElems.rd_val hy
  rw [WideElems.rg_of hy]
  obtain ⟨q, _, hq, _⟩ := Maps.keyOf_str hk h1
  refine ⟨⟨q, hq⟩, ?_⟩
  simp only [tn, Option.some.injEq] at h2
  rw [h3, ← h2]
  exact ⟨_, rfl⟩
 generalize (es.toList.map (rg P k tn)).foldr DataW.insert [] = l at *
 unfold ql
 have hat : ∀ s, has (.map l) (.string s) = true → ∃ v, (DataW.map l).atKey (.string s) .nil = .held v := by
  intro s hh
  simp only [has, List.any_eq_true] at hh
  simp only [DataW.atKey]
  cases hf : l.find? (fun p => p.1.sameKey (.string s)) with
  | none =>
   rw [List.find?_eq_none] at hf
   obtain ⟨p, hp, hq⟩ := hh
   exact absurd hq (hf p hp)
  | some p => exact (hkeys p (List.mem_of_find?_eq_some hf)).2
 have hmem : s ∈ strKeys (.map l) ↔ has (.map l) (.string s) = true := by
  simp only [has, List.any_eq_true]
  unfold strKeys
  simp only [List.mem_map]
  constructor
  ·rintro ⟨p, hp, hs⟩
   obtain ⟨⟨x, hx⟩, _⟩ := hkeys p hp
   refine ⟨p, hp, ?_⟩
   rw [hx] at hs ⊢
   simp only [strOf] at hs
   subst hs
   simp [Lit.sameKey]
  ·rintro ⟨p, hp, hs⟩
   obtain ⟨⟨x, hx⟩, _⟩ := hkeys p hp
   refine ⟨p, hp, ?_⟩
   rw [hx] at hs ⊢
   simp [Lit.sameKey] at hs
   subst hs
   rfl
 rw [hmem]
 cases hh : has (.map l) (.string s) with
 | false => simp
 | true =>
  obtain ⟨v, hv⟩ := hat s hh
  simp [hv]
omit ht in
theorem nodup_keys {D : DataW Value} (h : w.ownsMap P k tn b n D) : (strKeys D).Nodup := by
 obtain ⟨es, rfl, hp⟩ := h.tidy (string_keyed hk)
 obtain ⟨es', he, hko⟩ := h.keysOf
 cases he
 unfold strKeys
 rw [List.Nodup, List.pairwise_map]
 refine List.Pairwise.imp_of_mem (fun {p q} hp hq h e => h ?_) hp
 obtain ⟨v1, h1⟩ := hko p hp
 obtain ⟨v2, h2⟩ := hko q hq
 obtain ⟨x, _, hx, _⟩ := Maps.keyOf_str hk h1
 obtain ⟨y, _, hy, _⟩ := Maps.keyOf_str hk h2
 rw [hx, hy] at e ⊢
 simp only [strOf] at e
 rw [e]
omit ht in
theorem alb {D : DataW Value} (h : w.ownsMap P k tn b n D) : (strKeys D).length ≤ n := by
 obtain ⟨es, rfl, _⟩ := h.tidy (string_keyed hk)
 have := h.size_le
 simpa [strKeys, Maps.size] using this
end
end Go.Proofs.YtmdimhcjogjcgaaGreatDoor.Mp
namespace Go.Proofs.YtmdimhcjogjcgaaGreatDoor.Gr
open Go.Proofs.YtmdimhcjogjcgaaGreatDoor.Lat Go.Proofs.YtmdimhcjogjcgaaGreatDoor.Mp
open Go.Proofs.YtmdimhcjogjcgaaGreatDoor.Abs (ai)
abbrev Ris (l : List Bs) : Prop := l.Pairwise fun x y => ai x y = true
theorem Ris.nodup {l : List Bs} (h : Ris l) : l.Nodup := h.imp fun {a b} h e => by subst e; rw [ic] at h; cases h
theorem afk : ∀ {l m : List Bs}, Ris l → Ris m → (∀ x, x ∈ l ↔ x ∈ m) → l = m
 | [], [], _, _, _ => rfl
 | [], b :: m, _, _, h => by simpa using (h b).2 (by simp)
 | a :: l, [], _, _, h => by simpa using (h a).1 (by simp)
 | a :: l, b :: m, h1, h2, h => by
  have h1' := List.pairwise_cons.1 h1
  have h2' := List.pairwise_cons.1 h2
  have hab : a = b := by
   rcases List.mem_cons.1 ((h a).1 (by simp)) with e | ha
   ·exact e
   ·rcases List.mem_cons.1 ((h b).2 (by simp)) with e | hb
    ·exact e.symm
    ·have x1 := h2'.1 a ha
     have x2 := h1'.1 b hb
     rw [aae _ _ x1] at x2; cases x2
  subst hab
  rw [afk h1'.2 h2'.2 fun x => ?_]
  constructor
  ·intro hx
   rcases List.mem_cons.1 ((h x).1 (List.mem_cons_of_mem _ hx)) with e | hx'
   ·subst e; have := h1'.1 x hx; rw [ic] at this; cases this
   ·exact hx'
  ·intro hx
   rcases List.mem_cons.1 ((h x).2 (List.mem_cons_of_mem _ hx)) with e | hx'
   ·subst e; have := h2'.1 x hx; rw [ic] at this; cases this
   ·exact hx'
theorem alc : ∀ x y : Bs, ai x y = true ↔ x < y
 | [], [] => by simp [ai]
 | [], b :: y => by simp [ai]
 | a :: x, [] => by simp [ai]
 | a :: x, b :: y => by
  rw [ai, List.cons_lt_cons_iff, ← alc x y]
  simp
theorem mw {l : List Bs} (h : l.Nodup) : Ris (l.mergeSort fun x y => decide (x ≤ y)) := by
 have h1 : (l.mergeSort fun x y => decide (x ≤ y)).Pairwise fun x y => decide (x ≤ y) = true := List.pairwise_mergeSort (fun a b c h1 h2 => by simp only [decide_eq_true_eq] at *; exact List.le_trans h1 h2) (fun a b => by simp only [Bool.or_eq_true, decide_eq_true_eq]; exact List.le_total a b) l
 have h2 : (l.mergeSort fun x y => decide (x ≤ y)).Nodup := (List.mergeSort_perm l _).nodup_iff.2 h
 refine List.Pairwise.imp₂ (fun a b h1 h2 => ?_) h1 h2
 rw [alc]
 simp only [decide_eq_true_eq] at h1
 rcases List.le_iff_lt_or_eq.1 h1 with h | h
 ·exact h
 ·exact absurd h h2
def pos (l : List Bs) (x : Bs) : Nat := (l.takeWhile fun y => ai y x).length
def xq (l : List Bs) (x : Bs) : List Bs := l.take (pos l x) ++ x :: l.drop (pos l x)
theorem afl (l : List Bs) (x : Bs) : pos l x ≤ l.length := (List.takeWhile_sublist _).length_le
theorem aax (a : Bs) (l : List Bs) (x : Bs) : pos (a :: l) x = if ai a x then pos l x + 1 else 0 := by
 unfold pos
 rw [List.takeWhile_cons]
 split <;> simp
theorem ad6 : ∀ (l : List Bs) (x : Bs) (t : Nat) (y : Bs), t < pos l x → l[t]? = some y → ai y x = true
 | [], x, t, y, h, _ => by simp [pos] at h
 | a :: l, x, 0, y, h, hy => by
  rw [aax] at h
  simp at hy; subst hy
  split at h
  ·assumption
  ·omega
 | a :: l, x, t + 1, y, h, hy => by
  rw [aax] at h
  split at h
  ·exact ad6 l x t y (by omega) (by simpa using hy)
  ·omega
theorem ag8 : ∀ (l : List Bs) (x : Bs), Ris l → ∀ (t : Nat) (y : Bs), pos l x ≤ t → l[t]? = some y → ai y x = false
 | [], x, _, t, y, h, hy => by simp at hy
 | a :: l, x, hr, t, y, h, hy => by
  rw [aax] at h
  have hr' := List.pairwise_cons.1 hr
  split at h
  ·rename_i ha
   cases t with
   | zero => omega
   | succ t => exact ag8 l x hr'.2 t y (by omega) (by simpa using hy)
  ·rename_i ha
   cases t with
   | zero => simp at hy; subst hy; simpa using ha
   | succ t =>
    have hm : y ∈ l := List.mem_of_getElem? (i := t) (by simpa using hy)
    have h1 := hr'.1 y hm
    cases hb : ai y x with
    | false => rfl
    | true => exact absurd (qy _ _ _ h1 hb) ha
theorem ad7 {l : List Bs} {x y : Bs} : y ∈ xq l x ↔ y = x ∨ y ∈ l := by
 unfold xq
 rw [List.mem_append, List.mem_cons]
 conv => rhs; rw [← List.take_append_drop (pos l x) l, List.mem_append]
 constructor
 ·rintro (h | rfl | h)
  ·exact .inr (.inl h)
  ·exact .inl rfl
  ·exact .inr (.inr h)
 ·rintro (rfl | h | h)
  ·exact .inr (.inl rfl)
  ·exact .inl h
  ·exact .inr (.inr h)
theorem ad8 : ∀ {l : List Bs} {x : Bs}, Ris l → x ∉ l → Ris (xq l x)
 | [], x, _, _ => by simp [xq, pos]
 | a :: l, x, h, hx => by
  have h' := List.pairwise_cons.1 h
  unfold xq
  rw [aax]
  split
  ·rename_i ha
   rw [List.take_succ_cons, List.drop_succ_cons, List.cons_append]
   refine List.pairwise_cons.2 ⟨fun y hy => ?_, ad8 h'.2 fun c => hx (List.mem_cons_of_mem _ c)⟩
   rcases ad7.1 hy with rfl | hy
   ·exact ha
   ·exact h'.1 y hy
  ·rename_i ha
   have hax : ai x a = true := by
    cases hb : ai x a with
    | true => rfl
    | false => exact absurd (qz a x (by simpa using ha) hb) (fun e => hx (by simp [e]))
   simp only [List.take_zero, List.drop_zero, List.nil_append]
   refine List.pairwise_cons.2 ⟨fun y hy => ?_, h⟩
   rcases List.mem_cons.1 hy with rfl | hy
   ·exact hax
   ·exact qy _ _ _ hax (h'.1 y hy)
theorem aii {l : List Bs} {x : Bs} (h : Ris l) : (l[pos l x]? = some x) ↔ x ∈ l := by
 constructor
 ·exact fun h => List.mem_of_getElem? h
 ·intro hx
  obtain ⟨i, hi, he⟩ := List.getElem_of_mem hx
  have h1 : l[i]? = some x := by rw [List.getElem?_eq_getElem hi, he]
  by_cases hp : i < pos l x
  ·have := ad6 l x i x hp h1
   rw [ic] at this; cases this
  ·by_cases hq : pos l x < i
   ·have hlt : pos l x < l.length := by omega
    have h2 := ag8 l x h (pos l x) l[pos l x] (Nat.le_refl _) (List.getElem?_eq_getElem hlt)
    have h3 : ai l[pos l x] l[i] = true := List.pairwise_iff_getElem.1 h _ _ hlt hi hq
    rw [he, h2] at h3; cases h3
   ·rw [show pos l x = i by omega]; exact h1
theorem axa {l : List Bs} {x : Bs} (h : Ris l) (S : Nat → Bool) (h1 : ∀ t y, l[t]? = some y → S t = ai y x) (h2 : ∀ t, l.length ≤ t → S t = false) : Lib.bsGo S l.length 0 l.length = pos l x := by
 refine Lib.bsGo_spec S (pos l x) (fun t ht => ?_) (fun t ht => ?_) _ _ _ (by omega) (Nat.zero_le _) (afl l x)
 ·have hl : t < l.length := Nat.lt_of_lt_of_le ht (afl l x)
  rw [h1 t _ (List.getElem?_eq_getElem hl)]
  exact ad6 l x t _ ht (List.getElem?_eq_getElem hl)
 ·by_cases hl : t < l.length
  ·rw [h1 t _ (List.getElem?_eq_getElem hl)]
   exact ag8 l x h t _ ht (List.getElem?_eq_getElem hl)
  ·exact h2 t (by omega)
abbrev Gr := Bs → Option (List Bs)
def dt (f : Gr) (k : Bs) : Gr := upd f k (some ((f k).getD []))
theorem avn {f : Gr} {k : Bs} {l : List Bs} (h : f k = some l) : dt f k = f := by
 funext x
 unfold dt upd
 split
 ·rename_i e; subst e; rw [h]; rfl
 ·rfl
def qm (f : Gr) (a b : Bs) : Gr :=
 let f1 := dt (dt f a) b
 let l := (f1 a).getD []
 if b ∈ l then f1 else upd f1 a (some (xq l b))
def fw (f : Gr) (a b : Bs) : Prop := ∃ l, f a = some l ∧ b ∈ l
structure ly (f : Gr) : Prop where
 ris : ∀ k l, f k = some l → Ris l
 pt : ∀ k l y, f k = some l → y ∈ l → f y ≠ none
theorem a2t : ly fun _ => none := ⟨fun _ _ h => (nomatch h), fun _ _ _ h => (nomatch h)⟩
theorem wm {f : Gr} {k x : Bs} : dt f k x ≠ none ↔ x = k ∨ f x ≠ none := by
 unfold dt upd
 split
 ·rename_i e; simp [e]
 ·rename_i e; simp [e]
theorem yt {f : Gr} {k a b : Bs} : fw (dt f k) a b ↔ fw f a b := by
 unfold fw dt upd
 by_cases h : a = k
 ·subst h
  rw [if_pos rfl]
  cases hf : f a with
  | none => simp
  | some l => simp
 ·rw [if_neg h]
theorem ab1 {f : Gr} (h : ly f) (k : Bs) : ly (dt f k) := by
 refine ⟨fun x l hx => ?_, fun x l y hx hy => ?_⟩
 ·unfold dt upd at hx
  split at hx
  ·cases hf : f k with
   | none => rw [hf] at hx; cases hx; exact List.Pairwise.nil
   | some m => rw [hf] at hx; cases hx; exact h.ris _ _ hf
  ·exact h.ris _ _ hx
 ·rw [wm]
  obtain ⟨m, hm, hy'⟩ := yt.1 ⟨l, hx, hy⟩
  exact .inr (h.pt _ _ _ hm hy')
theorem ag9 {f : Gr} {a b x : Bs} : qm f a b x ≠ none ↔ x = a ∨ x = b ∨ f x ≠ none := by
 have h1 : dt (dt f a) b x ≠ none ↔ x = a ∨ x = b ∨ f x ≠ none := by rw [wm, wm]; constructor <;> (rintro (h | h | h) <;> simp [h])
 unfold qm
 try simp only
 split
 ·exact h1
 ·unfold upd
  split
  ·rename_i e; simp [e]
  ·exact h1
theorem ab2 {f : Gr} {a b x y : Bs} : fw (qm f a b) x y ↔ (x = a ∧ y = b) ∨ fw f x y := by
 have h1 : fw (dt (dt f a) b) x y ↔ fw f x y := by rw [yt, yt]
 have ha : dt (dt f a) b a ≠ none := by rw [wm, wm]; simp
 obtain ⟨l, hl⟩ := Option.ne_none_iff_exists'.1 ha
 unfold qm
 simp only [hl, Option.getD_some]
 split
 ·rename_i hb
  rw [h1]
  constructor
  ·exact .inr
  ·rintro (⟨rfl, rfl⟩ | h)
   ·rw [← h1]; exact ⟨l, hl, hb⟩
   ·exact h
 ·rename_i hb
  rw [← h1]
  unfold fw upd
  by_cases hx : x = a
  ·subst hx
   simp only [if_true, Option.some.injEq, exists_eq_left', hl, ad7, true_and]
  ·simp [hx]
theorem aoa {f : Gr} (h : ly f) (a b : Bs) : ly (qm f a b) := by
 have h1 := ab1 (ab1 h a) b
 refine ⟨fun x l hx => ?_, fun x l y hx hy => ?_⟩
 ·unfold qm at hx
  try simp only at hx
  split at hx
  ·exact h1.ris _ _ hx
  ·rename_i hb
   unfold upd at hx
   split at hx
   ·cases hx
    refine ad8 ?_ hb
    cases hf : dt (dt f a) b a with
    | none => exact List.Pairwise.nil
    | some m => exact h1.ris _ _ hf
   ·exact h1.ris _ _ hx
 ·rw [ag9]
  rcases ab2.1 ⟨l, hx, hy⟩ with ⟨_, rfl⟩ | ⟨m, hm, hy⟩
  ·exact .inr (.inl rfl)
  ·exact .inr (.inr (h.pt _ _ _ hm hy))
end Go.Proofs.YtmdimhcjogjcgaaGreatDoor.Gr
