/- Settled values; depth; values of one term. -/
import Derived.Test.YtmdimhcjogjcgaaGreatDoorGar
import Derived.Lib.Join
set_option linter.all false
noncomputable section
namespace Go.Proofs.YtmdimhcjogjcgaaGreatDoor.Lat
open Go.Proofs.YtmdimhcjogjcgaaGreatDoor.Abs
theorem a2r (v : List Tm) (hl : szV v ≤ 1073741824) (hok : okL Rn v = true) (h : ∀ t ∈ v, ∀ f ∈ t.fs, okV Rn f.v = true → vi (.agg 1 [.sl 8 (al f.v)]) (.fn 155 []) = some (.bool (seL false f.v))) :
  vi (.agg 1 [.sl 8 (al v)]) (.fn 155 []) = some (.bool (seL false v)) := by
 rw [vi.ae, qz.ae]
 simp only [v0, ic, ct]
 match v with
 | [] => rfl
 | t :: u :: r =>
  rw [decide_eq_false (by simp <;> omega), ifF, decide_eq_true (by simp <;> omega)]; rfl
 | [t] =>
  have hs := ll (v := [t]) (List.mem_cons_self ..)
  rw [fw] at hs
  have hlen := gw t.fs
  have hT := ab8 _ hok t (List.mem_cons_self ..)
  have e1 : decide ((([t] : List Tm).length : Int) = 0) = false := by simp
  have e2 : decide ((1 : Int) < (([t] : List Tm).length : Int)) = false := by simp
  rw [e1, ifF, e2, ifF]
  simp only [ai5, g0, bf, ab]
  rw [seL, a2q]
  rw [vn] at hT
  by_cases h5 : t.k = 5
  ·rw [decide_eq_true h5, ifT]
   simp [a98, as0, bf, ab, ifT, h5]
  rw [if_neg h5] at hT
  rw [decide_eq_false h5, ifF, decide_eq_true (p := t.k ≠ 5) h5, Bool.true_and]
  simp only [a98, as0, bf, ab, g0, g7, jk]
  simp only [decide_true, Bool.not_true, ifF]
  by_cases h4 : t.k = 4
  ·rw [if_pos h4, Bool.and_eq_true] at hT
   rw [decide_eq_true h4, Bool.not_true, ifF, if_pos h4]
   have := aw6 t.fs 197 [AV.eptr 1 [AV.fn 155 []] 0] (fun f => !seL false f.v) (by omega) (fun f hf => by
    have : abu (.agg 2 (kg f)) (.eptr 1 [AV.fn 155 []] 0) = some (.bool (!seL false f.v)) := by
     rw [abu.ae]
     simp only [h1, frz]
     rw [h t (List.mem_cons_self ..) f hf (aff _ hT.2 f hf)]; rfl
    exact this)
   rw [this]
   simp only [ab, bq]
   rw [aw8, Bool.not_not, axg]
  ·rw [if_neg h4] at hT
   rw [decide_eq_false h4, Bool.not_false, ifT, if_neg h4]
   have hr : ah S 155 ([AV.agg 8 (ao t)] ++ []) = some (.bool (single t)) := by
    have : aah (.agg 8 (ao t)) = some (.bool (single t)) := by
     rw [aah.ae]
     simp only [g5, bq, zo, hT, asx, ab, ifT, orK]
    exact this
   rw [hr]
   simp only [ab, bq]
   cases t.m <;> cases single t <;> rfl
theorem apt : ∀ (v : List Tm), szV v ≤ 1073741824 → okL Rn v = true → vi (.agg 1 [.sl 8 (al v)]) (.fn 155 []) = some (.bool (seL false v))
 | v, hv, hok => a2r v hv hok fun t ht f hf ho => apt f.v (by have := jt ht hf; omega) (aal ho)
termination_by v => szV v
decreasing_by have := jt ht hf; omega
theorem av7 (v : List Tm) (hv : szV v ≤ 1073741824) : vh (.agg 1 [.sl 8 (al v)]) = some (.bool (okV Rn v && seL false v)) := by
 rw [vh.ae, aa1 v hv]
 cases h : okV Rn v with
 | false => rfl
 | true =>
  rw [apt v hv (aal h)]
  rfl
theorem a2s (v : List Tm) (n j : Nat) (t : Tm) (hj : v[j]? = some t) (hl : v.length ≤ 1073741824) (hb : szF t.fs ≤ 1073741824)
  (h : ∀ f ∈ t.fs, dz (.agg 1 [.sl 8 (al f.v)]) = some (.int .i64 (depth f.v : Nat)))
  (next : ∀ m : Nat, m = max n (dpF t.fs) → dz.l0 (.int .i64 (m : Int)) (.sl 8 (al v)) (.int .i64 (v.length : Int)) (.int .i64 ((j + 1 : Nat) : Int)) = some (.int .i64 ((1 + max m (dpV (v.drop (j + 1))) : Nat) : Int))) :
  ∀ (d i m : Nat), i + d = t.fs.length → max m (dpF (t.fs.drop i)) = max n (dpF t.fs) → dz.l1 (.int .i64 (m : Int)) (.sl 8 (al v)) (.int .i64 (v.length : Int)) (.int .i64 (j : Int)) (.sl 2 (cq t.fs)) (.int .i64 (t.fs.length : Int)) (.int .i64 (i : Int)) = some (.int .i64 ((1 + max n (max (dpF t.fs) (dpV (v.drop (j + 1)))) : Nat) : Int))
 | 0, i, m, hi, hm => by
  rw [dz.en, decide_eq_false (by omega), ifF]
  rw [bc (by omega), dpF] at hm
  have hj' : j < v.length := (List.getElem?_eq_some_iff.1 hj).1
  rw [aj (by omega), next m (by omega)]
  congr 3
  omega
 | d + 1, i, m, hi, hm => by
  have h1' : i < t.fs.length := by omega
  have e1 : t.fs[i]? = some t.fs[i] := List.getElem?_eq_getElem h1'
  have hc := h _ (List.getElem_mem h1')
  have hl := gw t.fs
  have hk := atb e1
  rw [dz.en, decide_eq_true (by omega), ifT, an (dx e1), h1]
  simp only [frz, hc, ab, bf]
  rw [aj (by omega)]
  have hd : depth t.fs[i].v = dpV t.fs[i].v + 1 := rfl
  have hmx : max (m : Int) ((depth t.fs[i].v : Nat) : Int) = ((max m (depth t.fs[i].v) : Nat) : Int) := by omega
  rw [hmx, a2s v n j t hj ‹_› hb h next d (i + 1) _ (by omega) (by omega)]
theorem akj (v : List Tm) (hl : szV v ≤ 1073741824) (h : ∀ t ∈ v, ∀ f ∈ t.fs, dz (.agg 1 [.sl 8 (al f.v)]) = some (.int .i64 (depth f.v : Nat))) :
  ∀ (d i n : Nat), i + d = v.length → max n (dpV (v.drop i)) ≤ dpV v → dz.l0 (.int .i64 (n : Int)) (.sl 8 (al v)) (.int .i64 (v.length : Int)) (.int .i64 (i : Int)) = some (.int .i64 ((1 + max n (dpV (v.drop i)) : Nat) : Int))
 | 0, i, n, hi, hn => by
  have hw := a9y v
  rw [dz.ai]
  rw [decide_eq_false (by omega), ifF, bc (by omega), dpV, aj (by omega), Nat.max_zero, Nat.add_comm]
 | d + 1, i, n, hi, hn => by
  have h1' : i < v.length := by omega
  have e1 : v[i]? = some v[i] := List.getElem?_eq_getElem h1'
  have hlen := fh v
  have hs := se e1
  rw [fw] at hs
  have hk := atc e1
  rw [dz.ai]
  rw [decide_eq_true (by omega), ifT]
  simp only [an (gm e1), g7, jk, cp]
  have := a2s v n i v[i] e1 (by omega) (by omega) (h _ (List.getElem_mem h1')) (fun m hm => akj v hl h d (i + 1) m (by omega) (by omega)) v[i].fs.length 0 n (by omega) (by rw [List.drop_zero])
  rw [e00] at this
  rw [this, hk]
theorem a2t : ∀ (n : Nat) (v : List Tm), szV v ≤ n → n ≤ 1073741824 → dz (.agg 1 [.sl 8 (al v)]) = some (.int .i64 (depth v : Nat))
 | 0, v, h, hn => by
  have hl := fh v
  obtain rfl : v = [] := List.eq_nil_of_length_eq_zero (by omega)
  rw [dz.ae]
  simp only [v0, ic, ct]
  exact akj [] (by simp [szV]) (fun t ht => by cases ht) 0 0 0 rfl (by simp)
 | n + 1, v, h, hn => by
  have := akj v (by omega) (fun t ht f hf => a2t n f.v (by have := jt ht hf; omega) (by omega)) v.length 0 0 (by omega) (by simp)
  rw [dz.ae]
  simp only [v0, ic, ct]
  rw [List.drop_zero, Nat.zero_max, Nat.add_comm, e00] at this
  rw [this]; rfl
def Left (v : List Tm) : Prop := ∀ d n : Int, 0 ≤ d → d ≤ 20 → -1 ≤ n → n ≤ 200 → ∃ r : Int, de (.agg 1 [.sl 8 (al v)]) (.int .i64 d) (.int .i64 n) = some (.int .i64 r) ∧ -1 ≤ r ∧ r ≤ n ∧ (0 ≤ r → (szV v : Int) ≤ 101 * (n - r))
theorem axh (D : Int) (hD : 1 ≤ D ∧ D ≤ 20) (c3 : List AV) (n4 : Int) (t : Tm) (hl : t.fs.length ≤ 100) (h : ∀ f ∈ t.fs, Left f.v) :
    ∀ (d i : Nat) (n : Int), i + d = t.fs.length → -1 ≤ n → n ≤ 200 → ∃ r : Int, -1 ≤ r ∧ r ≤ n ∧ (0 ≤ r → (szF (t.fs.drop i) : Int) ≤ 101 * (n - r) + d) ∧
      (de.l1 (.int .i64 D) (.int .i64 n) (.boxv 1 c3 []) (.int .i64 n4) (.boxv 8 (ao t) []) (.int .i64 (i : Int)) = de.l0 (.int .i64 D) (.int .i64 r) (.boxv 1 c3 []) (.int .i64 (w64 (n4 + 1))) ∨
       r = -1 ∧ de.l1 (.int .i64 D) (.int .i64 n) (.boxv 1 c3 []) (.int .i64 n4) (.boxv 8 (ao t) []) (.int .i64 (i : Int)) = some (.int .i64 (-1)))
  | 0, i, n, hi, h1n, h2n => by
    refine ⟨n, h1n, Int.le_refl _, fun _ => by rw [bc (by omega), szF]; omega, .inl ?_⟩
    rw [de.en]
    simp only [g7, jk, cp, kq, ab]
    rw [decide_eq_false (by omega), Bool.false_and, ifF]
  | d + 1, i, n, hi, h1n, h2n => by
    have h1' : i < t.fs.length := by omega
    have e1 : t.fs[i]? = some t.fs[i] := List.getElem?_eq_getElem h1'
    by_cases hn : 0 ≤ n
    · by_cases hnm : 100 < t.fs[i].n.length
      · refine ⟨-1, by omega, by omega, fun h => by omega, .inr ⟨rfl, ?_⟩⟩
        rw [de.en]
        simp only [g7, jk, cp, kq, ab, an (dx e1), h0, cf]
        rw [decide_eq_true (p := (i : Int) < (t.fs.length : Int)) (by omega), decide_eq_true hn, Bool.and_self, ifT, decide_eq_true (by omega), ifT]
      · obtain ⟨r1, q1, q2, q3, q4⟩ := h _ (List.getElem_mem h1') (D - 1) n (by omega) (by omega) h1n h2n
        obtain ⟨r, p1, p2, p3, p4⟩ := axh D hD c3 n4 t hl h d (i + 1) r1 (by omega) q2 (by omega)
        have he : de.l1 (.int .i64 D) (.int .i64 n) (.boxv 1 c3 []) (.int .i64 n4) (.boxv 8 (ao t) []) (.int .i64 (i : Int)) = de.l1 (.int .i64 D) (.int .i64 r1) (.boxv 1 c3 []) (.int .i64 n4) (.boxv 8 (ao t) []) (.int .i64 ((i + 1 : Nat) : Int)) := by
          rw [de.en]
          simp only [g7, jk, cp, kq, ab, an (dx e1), h0, h1, cf]
          rw [decide_eq_true (p := (i : Int) < (t.fs.length : Int)) (by omega), decide_eq_true hn, Bool.and_self, ifT, decide_eq_false (by omega), ifF, qm (n := D - 1) (by omega), q1]
          simp only [ab, bf]
          rw [aj (by omega)]
        refine ⟨r, p1, by omega, fun hr => ?_, ?_⟩
        · have := p3 hr
          have := q4 (by omega)
          rw [au h1']
          have hz : szF (t.fs[i] :: t.fs.drop (i + 1)) = 1 + szV t.fs[i].v + szF (t.fs.drop (i + 1)) := by generalize t.fs[i] = f; cases f; rfl
          rw [hz]; omega
        · rcases p4 with p4 | p4
          · exact .inl (he.trans p4)
          · exact .inr ⟨p4.1, he.trans p4.2⟩
    · refine ⟨n, h1n, Int.le_refl _, fun h => by omega, .inl ?_⟩
      rw [de.en]
      simp only [g7, jk, cp, kq, ab]
      rw [decide_eq_false hn, Bool.and_false, ifF]
theorem axi (v : List Tm) (h : ∀ t ∈ v, ∀ f ∈ t.fs, Left f.v) (D : Int) (hD : 1 ≤ D ∧ D ≤ 20) :
  ∀ (d i : Nat) (n : Int), i + d = v.length → -1 ≤ n → n ≤ 200 → (i : Int) + n ≤ 200 → ∃ r : Int, de.l0 (.int .i64 D) (.int .i64 n) (.boxv 1 [.sl 8 (al v)] []) (.int .i64 (i : Int)) = some (.int .i64 r) ∧ -1 ≤ r ∧ r ≤ n ∧ (0 ≤ r → (szV (v.drop i) : Int) ≤ 101 * (n - r))
 | 0, i, n, hi, h1n, h2n, hin => by
  refine ⟨n, ?_, h1n, Int.le_refl _, fun _ => by rw [bc (by omega), szV]; omega⟩
  rw [de.ai]
  simp only [v0, ic, ct, kq, ab]
  rw [decide_eq_false (by omega), Bool.false_and, ifF]
 | d + 1, i, n, hi, h1n, h2n, hin => by
  have h1' : i < v.length := by omega
  have e1 : v[i]? = some v[i] := List.getElem?_eq_getElem h1'
  by_cases hn : 0 ≤ n
  ·by_cases hbig : 400 < v[i].s.length ∨ 100 < v[i].fs.length
   ·refine ⟨-1, ?_, by omega, by omega, fun h => by omega⟩
    rw [de.ai]
    simp only [v0, ic, ct, kq, orK, ab, an (gm e1), g3, g7, cf, jk, cp]
    have hb : (decide ((400 : Int) < (v[i].s.length : Int)) || decide ((100 : Int) < (v[i].fs.length : Int))) = true := by
     rw [Bool.or_eq_true, decide_eq_true_eq, decide_eq_true_eq]; omega
    rw [decide_eq_true (p := (i : Int) < (v.length : Int)) (by omega), decide_eq_true hn, Bool.and_self, ifT, hb, ifT]
   ·obtain ⟨r1, p1, p2, p3, p4⟩ := axh D hD [.sl 8 (al v)] (i : Int) v[i] (by omega) (h _ (List.getElem_mem h1')) v[i].fs.length 0 (n - 1) (by omega) (by omega) (by omega)
    rw [List.drop_zero] at p3
    rw [e00] at p4
    have he : de.l0 (.int .i64 D) (.int .i64 n) (.boxv 1 [.sl 8 (al v)] []) (.int .i64 (i : Int)) = de.l1 (.int .i64 D) (.int .i64 (n - 1)) (.boxv 1 [.sl 8 (al v)] []) (.int .i64 (i : Int)) (.boxv 8 (ao v[i]) []) (.int .i64 0) := by
     rw [de.ai]
     simp only [v0, ic, ct, kq, orK, ab, an (gm e1), g3, g7, cf, jk, cp]
     have hb : (decide ((400 : Int) < (v[i].s.length : Int)) || decide ((100 : Int) < (v[i].fs.length : Int))) = false := by
      rw [decide_eq_false (by omega), decide_eq_false (by omega)]; rfl
     rw [decide_eq_true (p := (i : Int) < (v.length : Int)) (by omega), decide_eq_true hn, Bool.and_self, ifT, hb, ifF, qm (by omega)]
    have hz : szV (v[i] :: v.drop (i + 1)) = 1 + szF v[i].fs + szV (v.drop (i + 1)) := by rw [szV, fw]
    have hd : v.drop i = v[i] :: v.drop (i + 1) := au h1'
    rcases p4 with p4 | ⟨p5, p4⟩
    ·obtain ⟨r, q1, q2, q3, q4⟩ := axi v h D hD d (i + 1) r1 (by omega) p1 (by omega) (by omega)
     refine ⟨r, ?_, q2, by omega, fun hr => ?_⟩
     ·rw [he, p4, aj (by omega), q1]
     ·have := q4 hr
      have := p3 (by omega)
      rw [hd, hz]; omega
    ·exact ⟨-1, he.trans p4, by omega, by omega, fun h => by omega⟩
  ·refine ⟨n, ?_, h1n, Int.le_refl _, fun h => by omega⟩
   rw [de.ai]
   simp only [v0, ic, ct, kq, ab]
   rw [decide_eq_false hn, Bool.and_false, ifF]
theorem axj (v : List Tm) : Left v := by
  intro d n h1d h2d h1n h2n
  rw [de.ae]
  simp only [v0, ic, ct, orK, ab]
  by_cases h0 : d = 0 ∨ n < (v.length : Int)
  ·refine ⟨-1, ?_, by omega, by omega, fun h => by omega⟩
   have hb : (decide (d = 0) || decide (n < (v.length : Int))) = true := by rw [Bool.or_eq_true, decide_eq_true_eq, decide_eq_true_eq]; exact h0
   rw [hb, ifT]
  ·have hb : (decide (d = 0) || decide (n < (v.length : Int))) = false := by rw [decide_eq_false (by omega), decide_eq_false (by omega)]; rfl
   rw [hb, ifF]
   obtain ⟨r, q1, q2, q3, q4⟩ := axi v (fun t ht f hf => axj f.v) d ⟨by omega, h2d⟩ v.length 0 n (by omega) h1n h2n (by omega)
   exact ⟨r, q1, q2, q3, q4⟩
termination_by szV v
decreasing_by have := jt ht hf; omega
theorem bfx (v : List Tm) : ∃ b, aaw (.agg 1 [.sl 8 (al v)]) = some (.bool b) ∧ (b = true → szV v ≤ 1073741824) := by
 obtain ⟨r, q1, q2, q3, q4⟩ := axj v 20 200 (by omega) (by omega) (by omega) (by omega)
 rw [aaw.ae, aec.ae, q1]
 simp only [ab, bf, bq]
 by_cases hr : 0 ≤ r
 ·have hz : szV v ≤ 1073741824 := by have := q4 hr; omega
  rw [decide_eq_true hr, ifT, ata 1073741824 v hz (Nat.le_refl _)]
  exact ⟨_, rfl, fun _ => hz⟩
 ·rw [decide_eq_false hr, ifF]
  exact ⟨_, rfl, fun h => by cases h⟩
structure Th where
 n : Bs
 v : List Tm
 d : List Bs
def ar (d : List Bs) : List (List AV) := d.map fun s => [AV.str s]
def aam (t : Th) : List AV := [.str t.n, .sl 8 (al t.v), .sl 1 (ar t.d)]
def cy (ts : List Th) : List (List AV) := ts.map aam
theorem gn {d : List Bs} {i : Nat} {s : Bs} (h : d[i]? = some s) : (ar d)[i]? = some [AV.str s] := by rw [ar, List.getElem?_map, h]; rfl
theorem br (d : List Bs) : (ar d).length = d.length := by simp [ar]
theorem fy {ts : List Th} {i : Nat} {t : Th} (h : ts[i]? = some t) : (cy ts)[i]? = some (aam t) := by rw [cy, List.getElem?_map, h]; rfl
theorem jm (ts : List Th) : (cy ts).length = ts.length := by simp [cy]
theorem th0 {α : Type} (t : Th) (k : AV → Option α) : aa (aam t) 0 k = k (.str t.n) := rfl
theorem th1 {α : Type} (t : Th) (k : AV → Option α) : aa (aam t) 1 k = k (.sl 8 (al t.v)) := rfl
theorem th2 {α : Type} (t : Th) (k : AV → Option α) : aa (aam t) 2 k = k (.sl 1 (ar t.d)) := rfl
theorem qn {α : Type} (l : List (List AV)) (k : List (List AV) → Option α) : asL 1 (.sl 1 l) k = k l := rfl
theorem pw {α : Type} (s : Bs) (k : AV → Option α) : aa [AV.str s] 0 k = k (.str s) := rfl
def ixB : List Bs → Bs → Nat → Int
 | [], _, _ => -1
 | x :: r, s, i => if x = s then (i : Int) else ixB r s (i + 1)
theorem afg : ∀ (l : List Bs) (s : Bs) (i : Nat), 0 ≤ ixB l s i ↔ s ∈ l
 | [], s, i => by simp [ixB]
 | x :: r, s, i => by
  unfold ixB
  split
  ·rename_i h; subst h; simp
  ·rename_i h
   rw [afg r s (i + 1), List.mem_cons]
   constructor
   ·exact .inr
   ·rintro (e | e)
    ·exact absurd e.symm h
    ·exact e
def aza (l : List (List AV)) (ns : List Bs) : Prop := l.length = ns.length ∧ ∀ (i : Nat) (n : Bs), ns[i]? = some n → ∃ a b, l[i]? = some [.str n, a, b]
theorem bfy (ts : List Th) : aza (cy ts) (ts.map (·.n)) := ⟨by simp [cy], fun i n h => by
 rw [List.getElem?_map] at h
 cases ht : ts[i]? with
 | none => rw [ht] at h; cases h
 | some t => rw [ht] at h; cases h; exact ⟨_, _, fy ht⟩⟩
theorem amb (l : List (List AV)) (ns : List Bs) (hn : aza l ns) (hl : ns.length ≤ 1073741824) (s : Bs) : ∀ (d i : Nat), i + d = ns.length → di.l0 (.sl 3 l) (.fn 80 [.eptr 1 [.str s] 0]) (.int .i64 (l.length : Int)) (.int .i64 (i : Int)) = some (.int .i64 (ixB (ns.drop i) s i))
 | 0, i, h => by rw [di.ai, hn.1, decide_eq_false (by omega), ifF, bc (by omega)]; rfl
 | d + 1, i, h => by
  have h1' : i < ns.length := by omega
  obtain ⟨a, b, e1⟩ := hn.2 i ns[i] (List.getElem?_eq_getElem h1')
  have hc : ah S 80 ([AV.agg 3 [.str ns[i], a, b]] ++ [.eptr 1 [.str s] 0]) = some (.bool (decide (ns[i] = s))) := by
   have : yq (.agg 3 [.str ns[i], a, b]) (.eptr 1 [.str s] 0) = some (.bool (decide (ns[i] = s))) := by rw [yq.ae]; rfl
   exact this
  have ih := amb l ns hn hl s d (i + 1) (by omega)
  rw [di.ai, decide_eq_true (by rw [hn.1]; omega), ifT, an e1, hc, au h1']
  simp only [ab, bq]
  unfold ixB
  by_cases hs : ns[i] = s
  ·rw [decide_eq_true hs, ifT, if_pos hs]
  ·rw [decide_eq_false hs, ifF, if_neg hs, aj (by omega), ih]
theorem a7r (l : List (List AV)) (ns : List Bs) (hn : aza l ns) (hl : ns.length ≤ 1073741824) (s : Bs) : yp (.sl 3 l) (.str s) = some (.int .i64 (ixB ns s 0)) := by
 have := amb l ns hn hl s ns.length 0 (by omega)
 rw [yp.ae, di.ae]
 rw [e00, List.drop_zero] at this
 rw [this]; rfl
theorem azb (ts : List Th) (hl : ts.length ≤ 1073741824) (s : Bs) : yp (.sl 3 (cy ts)) (.str s) = some (.int .i64 (ixB (ts.map (·.n)) s 0)) := a7r _ _ (bfy ts) (by simpa using hl) s
theorem amc (ts : List Th) (hl : ts.length ≤ 1073741824) (s : Bs) : ∀ (d i : Nat), i + d = ts.length → kh.l0 (.sl 3 (cy ts)) (.str s) (.int .i64 (i : Int)) = some (.int .i64 (ixB ((ts.map (·.n)).drop i) s i))
 | 0, i, h => by rw [kh.ai, jm, decide_eq_false (by omega), ifF, bc (by simp; omega)]; rfl
 | d + 1, i, h => by
  have h1' : i < ts.length := by omega
  have e1 : ts[i]? = some ts[i] := List.getElem?_eq_getElem h1'
  have ih := amc ts hl s d (i + 1) (by omega)
  have e2 : (ts.map (·.n)).drop i = ts[i].n :: (ts.map (·.n)).drop (i + 1) := by rw [au (by simpa using h1')]; simp
  rw [kh.ai, jm, decide_eq_true (by omega), ifT, an (fy e1), th0, e2]
  simp only [cf]
  unfold ixB
  by_cases hs : ts[i].n = s
  ·rw [decide_eq_true hs, ifT, if_pos hs]
  ·rw [decide_eq_false hs, ifF, if_neg hs, aj (by omega), ih]
theorem azc (ts : List Th) (hl : ts.length ≤ 1073741824) (s : Bs) : kh (.sl 3 (cy ts)) (.str s) = some (.int .i64 (ixB (ts.map (·.n)) s 0)) := by
 have := amc ts hl s ts.length 0 (by omega)
 rw [e00, List.drop_zero] at this
 rw [kh.ae, this]
theorem apu (d : List Bs) (hl : d.length ≤ 1073741824) (s : Bs) : ∀ (k i : Nat), i + k = d.length → gh.l0 (.sl 1 (ar d)) (.str s) (.int .i64 (i : Int)) = some (.bool (decide (s ∈ d.drop i)))
 | 0, i, h => by rw [gh.ai, br, decide_eq_false (by omega), ifF, bc (by omega)]; simp
 | k + 1, i, h => by
  have h1' : i < d.length := by omega
  have e1 : d[i]? = some d[i] := List.getElem?_eq_getElem h1'
  have ih := apu d hl s k (i + 1) (by omega)
  rw [gh.ai, br, decide_eq_true (by omega), ifT, an (gn e1), pw, au h1']
  simp only [cf]
  by_cases hs : d[i] = s
  ·rw [decide_eq_true hs, ifT, decide_eq_true (by rw [hs]; exact List.mem_cons_self ..)]
  ·rw [decide_eq_false hs, ifF, aj (by omega), ih]
   congr 2
   refine decide_eq_decide.2 ?_
   rw [List.mem_cons]
   constructor
   ·exact .inr
   ·rintro (e | e)
    ·exact absurd e.symm hs
    ·exact e
theorem afh (d : List Bs) (hl : d.length ≤ 1073741824) (s : Bs) : gh (.sl 1 (ar d)) (.str s) = some (.bool (decide (s ∈ d))) := by
 have := apu d hl s d.length 0 (by omega)
 rw [e00, List.drop_zero] at this
 rw [gh.ae, this]
theorem atr (d : List Bs) (hl : d.length ≤ 1073741824) (s : Bs) : ∀ (k i : Nat), i + k = d.length → eg.l0 (.sl 1 (ar d)) (.str s) (.int .i64 (d.length : Int)) (.int .i64 (i : Int)) = some (.int .i64 (ixB (d.drop i) s i))
 | 0, i, h => by rw [eg.ai, decide_eq_false (by omega), ifF, bc (by omega)]; rfl
 | k + 1, i, h => by
  have h1' : i < d.length := by omega
  have e1 : d[i]? = some d[i] := List.getElem?_eq_getElem h1'
  have ih := atr d hl s k (i + 1) (by omega)
  rw [eg.ai, decide_eq_true (by omega), ifT, an (gn e1), pw, au h1']
  simp only [cf]
  unfold ixB
  by_cases hs : d[i] = s
  ·rw [decide_eq_true hs.symm, ifT, if_pos hs]
  ·rw [decide_eq_false (fun e => hs e.symm), ifF, if_neg hs, aj (by omega), ih]
theorem av8 (d : List Bs) (hl : d.length ≤ 1073741824) (s : Bs) : lu (.sl 1 (ar d)) (.str s) = some (.bool (decide (s ∈ d))) := by
 have := atr d hl s d.length 0 (by omega)
 rw [e00, List.drop_zero] at this
 rw [lu.ae, eg.ae, br, this]
 simp only [ab, bf]
 congr 2
 exact decide_eq_decide.2 (afg d s 0)
def fsD (d : List Bs) : List Fd := d.map fun s => .mk s []
theorem axk (d : List Bs) : zq (fsD d) = ar d := by simp [zq, fsD, ar, Fd.n]
def ri (d : List Bs) : Bool := jc Rn none (fsD d)
theorem an8 (d : List Bs) (hl : d.length ≤ 1073741824) : fo (.sl 1 (ar d)) = some (.bool (ri d)) := by
 have := aw4 (fsD d) (by simpa [fsD] using hl)
 rw [axk] at this
 exact this
theorem apv (fs : List Fd) (hl : fs.length ≤ 1073741824) : ∀ (d i : Nat), i + d = fs.length → jx.l0 (.sl 1 (zq fs)) (.sl 1 (zq fs)) (.int .i64 (fs.length : Int)) (.int .i64 (i : Int)) = some (.bool (jc Nam.ep (o4 fs i) (fs.drop i)))
 | 0, i, h => by
  rw [jx.ai, decide_eq_false (by omega), ifF, bc (by omega)]; rfl
 | d + 1, i, h => by
  have h1' : i < fs.length := by omega
  have e1 : fs[i]? = some fs[i] := List.getElem?_eq_getElem h1'
  have ih := apv fs hl d (i + 1) (by omega)
  rw [abx e1] at ih
  rw [jx.ai, decide_eq_true (by omega), ifT, au h1', aaz]
  simp only [an (ai4 e1), mg, cf, ac6, ab, bq]
  rw [aj (by omega), ih]
  by_cases hi0 : i = 0
  ·subst hi0
   rw [e00, decide_eq_false (by omega), ifF]
   simp only [orK, ab]
   cases Nam.ep fs[0].n <;> simp [ifT, ifF, o4, qh]
  ·have e2 : fs[i - 1]? = some fs[i - 1] := List.getElem?_eq_getElem (by omega)
   rw [decide_eq_true (by omega), ifT, rh (by omega) (by omega)]
   simp only [an (ai4 e2), mg, cf, ab, orK]
   have : o4 fs i = some fs[i - 1].n := by unfold o4; rw [if_neg hi0, e2]; rfl
   rw [this, qh]
   have hb : (aw fs[i].n fs[i - 1].n || decide (fs[i].n = fs[i - 1].n)) = !aw fs[i - 1].n fs[i].n := by
    cases h1 : aw fs[i - 1].n fs[i].n with
    | true =>
     rw [acr _ _ h1, Bool.false_or, Bool.not_true]
     exact decide_eq_false fun e => by rw [e, mo] at h1; cases h1
    | false =>
     cases h2 : aw fs[i].n fs[i - 1].n with
     | true => rfl
     | false => rw [Bool.false_or, Bool.not_false]; exact decide_eq_true (vc _ _ h2 h1)
   rw [hb]
   cases Nam.ep fs[i].n <;> cases aw fs[i - 1].n fs[i].n <;> simp [ifT, ifF]
theorem bbt (d : List Bs) (hl : d.length ≤ 1073741824) : jx (.sl 1 (ar d)) = some (.bool (ri d)) := by
 have := apv (fsD d) (by simpa [fsD] using hl) (fsD d).length 0 (by omega)
 rw [e00, List.drop_zero, axk] at this
 rw [jx.ae, br]
 rw [show ((fsD d).length : Int) = (d.length : Int) by simp [fsD]] at this
 exact this
end Go.Proofs.YtmdimhcjogjcgaaGreatDoor.Lat
namespace Go.Proofs.YtmdimhcjogjcgaaGreatDoor.Xp
open Go.Proofs.YtmdimhcjogjcgaaGreatDoor.Abs Go.Proofs.YtmdimhcjogjcgaaGreatDoor.Lat
mutual
inductive Ex where
 | mk (op n : Int) (s : Bs) (p : List Bs) (ps : List Pr) (o : Bool) (ks : List Ex)
inductive Pr where
 | mk (n : Bs) (e : Ex)
end
def Ex.op : Ex → Int | .mk x _ _ _ _ _ _ => x
def Ex.n : Ex → Int | .mk _ x _ _ _ _ _ => x
def Ex.s : Ex → Bs | .mk _ _ x _ _ _ _ => x
def Ex.p : Ex → List Bs | .mk _ _ _ x _ _ _ => x
def Ex.ps : Ex → List Pr | .mk _ _ _ _ x _ _ => x
def Ex.o : Ex → Bool | .mk _ _ _ _ _ x _ => x
def Ex.ks : Ex → List Ex | .mk _ _ _ _ _ _ x => x
def Pr.n : Pr → Bs | .mk x _ => x
def Pr.e : Pr → Ex | .mk _ x => x
mutual
def bh : Ex → List AV
 | .mk op n s p ps o ks => [.int .i64 op, .int .i64 n, .str s, .sl 1 (ar p), .sl 8 (mh ps), .bool o, .sl 7 (er ks)]
def er : List Ex → List (List AV)
 | [] => []
 | e :: r => bh e :: er r
def uw : Pr → List AV
 | .mk n e => .str n :: bh e
def mh : List Pr → List (List AV)
 | [] => []
 | p :: r => uw p :: mh r
end
theorem aee : ∀ l : List Ex, er l = l.map bh
 | [] => rfl
 | e :: r => by rw [er, aee r]; rfl
theorem aef : ∀ l : List Pr, mh l = l.map uw
 | [] => rfl
 | e :: r => by rw [mh, aef r]; rfl
theorem fz (l : List Ex) : (er l).length = l.length := by rw [aee, List.length_map]
theorem kx (l : List Pr) : (mh l).length = l.length := by rw [aef, List.length_map]
theorem ph {l : List Ex} {i : Nat} {e : Ex} (h : l[i]? = some e) : (er l)[i]? = some (bh e) := by rw [aee, List.getElem?_map, h]; rfl
theorem tg {l : List Pr} {i : Nat} {e : Pr} (h : l[i]? = some e) : (mh l)[i]? = some (uw e) := by rw [aef, List.getElem?_map, h]; rfl
theorem o5 (a : List Ex) (e : Ex) : er a ++ [bh e] = er (a ++ [e]) := by simp [aee]
theorem agf (a : List Pr) (p : Pr) : mh a ++ [uw p] = mh (a ++ [p]) := by simp [aef]
section
variable {α : Type}
theorem x0 (e : Ex) (k : AV → Option α) : aa (bh e) 0 k = k (.int .i64 e.op) := by cases e; rfl
theorem x1 (e : Ex) (k : AV → Option α) : aa (bh e) 1 k = k (.int .i64 e.n) := by cases e; rfl
theorem x2 (e : Ex) (k : AV → Option α) : aa (bh e) 2 k = k (.str e.s) := by cases e; rfl
theorem x3 (e : Ex) (k : AV → Option α) : aa (bh e) 3 k = k (.sl 1 (ar e.p)) := by cases e; rfl
theorem x4 (e : Ex) (k : AV → Option α) : aa (bh e) 4 k = k (.sl 8 (mh e.ps)) := by cases e; rfl
theorem x5 (e : Ex) (k : AV → Option α) : aa (bh e) 5 k = k (.bool e.o) := by cases e; rfl
theorem x6 (e : Ex) (k : AV → Option α) : aa (bh e) 6 k = k (.sl 7 (er e.ks)) := by cases e; rfl
theorem y0 (p : Pr) (k : AV → Option α) : aa (uw p) 0 k = k (.str p.n) := by cases p; rfl
theorem y8 (l : List (List AV)) (k : List (List AV) → Option α) : asL 7 (.sl 7 l) k = k l := rfl
theorem xm (l : List (List AV)) (k : List (List AV) → Option α) : asL 8 (.sl 8 l) k = k l := rfl
end
mutual
def szE : Ex → Nat
 | .mk _ _ _ _ ps _ ks => 1 + vo ps + tj ks
def tj : List Ex → Nat
 | [] => 0
 | e :: r => szE e + tj r
def vo : List Pr → Nat
 | [] => 0
 | .mk _ e :: r => szE e + vo r
end
theorem an9 : ∀ e : Ex, 0 < szE e
 | .mk _ _ _ _ _ _ _ => by rw [szE]; omega
theorem ats : ∀ l : List Ex, l.length ≤ tj l
 | [] => Nat.le_refl _
 | e :: r => by have := ats r; have := an9 e; rw [tj, List.length_cons]; omega
theorem agh : ∀ l : List Pr, l.length ≤ vo l
 | [] => Nat.le_refl _
 | .mk n e :: r => by have := agh r; have := an9 e; rw [vo, List.length_cons]; omega
theorem aoa : ∀ {l : List Ex} {e : Ex}, e ∈ l → szE e ≤ tj l
 | x :: r, e, h => by
  rw [tj]
  rcases List.mem_cons.1 h with rfl | h
  ·omega
  ·have := aoa h; omega
theorem aob : ∀ {l : List Pr} {p : Pr}, p ∈ l → szE p.e ≤ vo l
 | .mk n e :: r, p, h => by
  rw [vo]
  rcases List.mem_cons.1 h with rfl | h
  ·show szE e ≤ _; omega
  ·have := aob h; omega
theorem amd {e k : Ex} (h : k ∈ e.ks) : szE k < szE e := by
 cases e with
 | mk op n s p ps o ks => have := aoa (l := ks) h; rw [szE]; omega
theorem ame {e : Ex} {p : Pr} (h : p ∈ e.ps) : szE p.e < szE e := by
 cases e with
 | mk op n s q ps o ks => have := aob (l := ps) h; rw [szE]; omega
def MI : Int := 9007199254740992
def lf (op n : Int) : Ex := .mk op n [] [] [] false []
def plX (k lo hi : Int) (s : Bs) (a : Bool) : List Ex :=
 if k = 3 then (if a = true then [lf 4 3] else [.mk 2 0 s [] [] false []])
 else if k = 1 then (if lo = hi then [lf 3 lo] else [lf 4 1])
 else if lo = hi then [lf 1 lo]
 else if lo = -MI then (if hi = MI then [lf 4 2] else [lf 8 hi])
 else if hi = MI then [lf 7 lo] else [lf 7 lo, lf 8 hi]
def vp : List Ex → Ex
 | [x] => x
 | l => .mk 11 0 [] [] [] false l
mutual
def gu : Tm → Option Ex
 | .mk k lo hi s a m o fs => if k = 5 then some (lf 4 5) else if k = 4 then (ew fs).map fun ps => .mk 10 0 [] [] ps o []
  else some (vp (if m = true then lf 6 0 :: plX k lo hi s a else plX k lo hi s a))
def ew : List Lat.Fd → Option (List Pr)
 | [] => some []
 | .mk n v :: r => (j9 v).bind fun x => (ew r).map fun ps => .mk n x :: ps
def j9 : List Tm → Option Ex
 | [] => some (lf 5 0)
 | [t] => gu t
 | t :: u :: r => if 32 < r.length + 2 then none else (gu t).bind fun x => (eh (u :: r)).map fun l => .mk 12 0 [] [] [] false (x :: l)
def eh : List Tm → Option (List Ex)
 | [] => some []
 | t :: r => (gu t).bind fun x => (eh r).map fun l => x :: l
end
theorem aeg {v : List Tm} (h : 2 ≤ v.length) (h2 : v.length ≤ 32) : j9 v = (eh v).map fun l => .mk 12 0 [] [] [] false l := by
 match v, h with
 | t :: u :: r, _ =>
  have e : ∀ q, eh (t :: q) = (gu t).bind fun x => (eh q).map fun l => x :: l := fun q => by rw [eh]
  rw [j9, if_neg (by simp only [List.length_cons] at h2; omega), e]
  cases gu t with
  | none => rfl
  | some x => cases eh (u :: r) <;> rfl
theorem aeh {v : List Tm} (h : 32 < v.length) : j9 v = none := by
 match v, h with
 | [t], h => simp at h
 | t :: u :: r, h => rw [j9, if_pos (by simp only [List.length_cons] at h; omega)]
end Go.Proofs.YtmdimhcjogjcgaaGreatDoor.Xp
namespace Go.Proofs.YtmdimhcjogjcgaaGreatDoor.Xp
open Go.Proofs.YtmdimhcjogjcgaaGreatDoor.Abs Go.Proofs.YtmdimhcjogjcgaaGreatDoor.Lat
def y9 (n : UInt8) : UInt8 := if n < 10 then 48 + n else 87 + n
def qc (c : UInt8) : Bs := if c = 34 ∨ c = 92 then [92, c] else if c = 10 then [92, 110] else if c < 32 ∨ 126 < c then [92, 120, y9 (c / 16), y9 (c % 16)] else [c]
def aa2 (s : Bs) : Bs := 34 :: (s.flatMap qc ++ [34])
def arq (n : Int) : Bs := if n = 1 then [98, 111, 111, 108] else if n = 2 then [105, 110, 116] else if n = 3 then [115, 116, 114, 105, 110, 103] else [97, 110, 121]
def rk (op : Int) : Bs := if op = 11 then [32, 38, 32] else [32, 124, 32]
def brk (op k : Int) : Bool := decide (k = 12) || (decide (op = 11) && decide (k = 11))
mutual
def txE : Ex → Bs
 | .mk op n s p ps o ks => if op = 1 then Lib.itoa n else if op = 2 then aa2 s else if op = 3 then (if n = 1 then [116, 114, 117, 101] else [102, 97, 108, 115, 101]) else if op = 4 then arq n
  else if op = 5 then [110, 111, 110, 101] else if op = 6 then [99, 111, 109, 112, 117, 116, 101, 100] else if op = 7 then 62 :: 61 :: Lib.itoa n else if op = 8 then 60 :: 61 :: Lib.itoa n
  else if op = 10 then 123 :: (Lib.join (ny ps ++ (if o = true then [[46, 46, 46]] else [])) [32] ++ [125]) else Lib.join (nj op ks) (rk op)
def ny : List Pr → List Bs
 | [] => []
 | .mk n e :: r => (n ++ 58 :: 32 :: (txE e ++ [59])) :: ny r
def nj (op : Int) : List Ex → List Bs
 | [] => []
 | k :: r => (if brk op k.op = true then 40 :: (txE k ++ [41]) else txE k) :: nj op r
end
mutual
def dpE : Ex → Nat
 | .mk op _ _ _ ps _ ks => 1 + (if op = 10 then akl ps else akk ks)
def akk : List Ex → Nat
 | [] => 0
 | e :: r => max (dpE e) (akk r)
def akl : List Pr → Nat
 | [] => 0
 | .mk _ e :: r => max (dpE e) (akl r)
end
end Go.Proofs.YtmdimhcjogjcgaaGreatDoor.Xp
namespace Go.Proofs.YtmdimhcjogjcgaaGreatDoor.Lat
open Go.Proofs.YtmdimhcjogjcgaaGreatDoor.Abs
theorem gOK {a b : List (List AV)} (h : a.length + b.length ≤ 1073741824) : Nat.ble (a.length + b.length) lim = true := by
 rw [Nat.ble_eq]; unfold lim; omega
theorem oa (a : List Bs) (s : Bs) : ar a ++ [[AV.str s]] = ar (a ++ [s]) := by simp [ar]
theorem apw (l : List Bs) (s : Bs) (hl : l.length ≤ 1048576) : ∀ (d i : Nat) (out : List Bs), i + d = l.length → out.length ≤ 1048576 + i → dk.l0 (.sl 1 (ar l)) (.str s) (.own 1 (ar out)) (.bool true) (.int .i64 (i : Int)) = some (.own 1 (ar (out ++ l.drop i)))
 | 0, i, out, h, ho => by rw [dk.ql, br, decide_eq_false (by omega), ifF, bc (by omega), List.append_nil]
 | d + 1, i, out, h, ho => by
  have h1' : i < l.length := by omega
  have e1 : l[i]? = some l[i] := List.getElem?_eq_getElem h1'
  have ih := apw l s hl d (i + 1) (out ++ [l[i]]) (by omega) (by simp; omega)
  rw [dk.ql, br, decide_eq_true (by omega), ifT, dk.mf, an (gn e1), pw]
  simp only [cf]
  rw [gOK (by rw [br]; simp; omega), guT, oa, aj (by omega), ih, au h1', List.append_assoc]; rfl
theorem apx (l : List Bs) (s : Bs) (hl : l.length ≤ 1048576) : ∀ (d i : Nat) (out : List Bs), i + d = l.length → out.length ≤ i → ∃ X : List Bs, dk.l0 (.sl 1 (ar l)) (.str s) (.own 1 (ar out)) (.bool false) (.int .i64 (i : Int)) = some (.own 1 (ar (out ++ X))) ∧ (∀ y, y ∈ X ↔ y = s ∨ y ∈ l.drop i) ∧ X.length = d + 1
 | 0, i, out, h, ho => by
  refine ⟨[s], ?_, by rw [bc (by omega)]; simp, rfl⟩
  rw [dk.ai, br, decide_eq_false (by omega), ifF, gOK (by rw [br]; simp; omega), guT, oa]
 | d + 1, i, out, h, ho => by
  have h1' : i < l.length := by omega
  have e1 : l[i]? = some l[i] := List.getElem?_eq_getElem h1'
  rw [dk.ai, br, decide_eq_true (by omega), ifT, an (gn e1), pw]
  simp only [cf, ab]
  cases hb : aw s l[i] with
  | true =>
   have := apw l s hl d (i + 1) (out ++ [s] ++ [l[i]]) (by omega) (by simp; omega)
   refine ⟨s :: l[i] :: l.drop (i + 1), ?_, fun y => by rw [au h1']; simp, by simp; omega⟩
   rw [ifT, gOK (by rw [br]; simp; omega), guT, oa, dk.mf, an (gn e1), pw]
   simp only [cf]
   rw [gOK (by rw [br]; simp; omega), guT, oa, aj (by omega), this]
   simp
  | false =>
   obtain ⟨X, hX, hm, hlen⟩ := apx l s hl d (i + 1) (out ++ [l[i]]) (by omega) (by simp; omega)
   refine ⟨l[i] :: X, ?_, fun y => by rw [au h1', List.mem_cons, hm, List.mem_cons]; constructor <;> (rintro (h | h | h) <;> simp [h]), by simp [hlen]⟩
   rw [ifF, dk.ac3, an (gn e1), pw]
   simp only [cf]
   rw [gOK (by rw [br]; simp; omega), guT, oa, aj (by omega), hX]
   simp
theorem att (l : List Bs) (s : Bs) (hl : l.length ≤ 1048576) : ∃ (r : AV) (X : List Bs), dk (.sl 1 (ar l)) (.str s) = some r ∧ (r = .sl 1 (ar X) ∨ r = .own 1 (ar X)) ∧ (∀ y, y ∈ X ↔ y = s ∨ y ∈ l) ∧ X.length ≤ l.length + 1 := by
 rw [dk.ae, afh l (by omega)]
 simp only [ab, bq]
 by_cases hs : s ∈ l
 ·rw [decide_eq_true hs, ifT]
  refine ⟨_, l, rfl, .inl rfl, fun y => ⟨.inr, ?_⟩, by omega⟩
  rintro (rfl | h)
  ·exact hs
  ·exact h
 ·rw [decide_eq_false hs, ifF]
  obtain ⟨X, hX, hm, hlen⟩ := apx l s hl l.length 0 [] (by omega) (by simp)
  rw [List.drop_zero] at hm
  exact ⟨_, X, hX, .inr rfl, hm, by omega⟩
def bh (E : List (Bs × Bs)) : List (List AV) := E.map fun p => [AV.str p.1, .str p.2]
theorem ph {E : List (Bs × Bs)} {i : Nat} {p : Bs × Bs} (h : E[i]? = some p) : (bh E)[i]? = some [AV.str p.1, .str p.2] := by rw [bh, List.getElem?_map, h]; rfl
theorem ac8 (E : List (Bs × Bs)) : (bh E).length = E.length := by simp [bh]
theorem akm (E : List (Bs × Bs)) (k : Bs) (hE : E.length ≤ 1048576) : ∀ (d i : Nat) (L : List Bs), i + d = E.length → L.length ≤ i → ∃ X : List Bs, ib.l0 (.sl 2 (bh E)) (.str k) (.sl 1 (ar L)) (.int .i64 (i : Int)) = some (.sl 1 (ar X)) ∧ (∀ y, y ∈ X ↔ y ∈ L ∨ (k, y) ∈ E.drop i) ∧ X.length ≤ E.length
 | 0, i, L, h, hL => by
  refine ⟨L, ?_, by rw [bc (by omega)]; simp, by omega⟩
  rw [ib.ql, ac8, decide_eq_false (by omega), ifF]
 | d + 1, i, L, h, hL => by
  have h1' : i < E.length := by omega
  have e1 : E[i]? = some E[i] := List.getElem?_eq_getElem h1'
  rw [ib.ql, ac8, decide_eq_true (by omega), ifT, an (ph e1), mg]
  simp only [cf]
  by_cases hk : E[i].1 = k
  ·obtain ⟨r, X, hP, hr, hm, hlen⟩ := att L E[i].2 (by omega)
   obtain ⟨Y, hY, hmY, hlY⟩ := akm E k hE d (i + 1) X (by omega) (by omega)
   refine ⟨Y, ?_, fun y => ?_, hlY⟩
   ·rw [decide_eq_true hk, ifT, an (ph e1)]
    show aa [AV.str E[i].1, .str E[i].2] 1 _ = _
    rw [show ∀ (k : AV → Option AV), aa [AV.str E[i].1, .str E[i].2] 1 k = k (.str E[i].2) from fun k => rfl]
    simp only [cf, hP, ab]
    rcases hr with rfl | rfl
    ·rw [qn, aj (by omega), hY]
    ·rw [show ∀ (k : List (List AV) → Option AV), asL 1 (.own 1 (ar X)) k = k (ar X) from fun k => rfl, aj (by omega), hY]
   ·rw [hmY, hm, au h1', List.mem_cons]
    constructor
    ·rintro ((rfl | h) | h)
     ·exact .inr (.inl (by rw [← hk]))
     ·exact .inl h
     ·exact .inr (.inr h)
    ·rintro (h | h | h)
     ·exact .inl (.inr h)
     ·exact .inl (.inl (by rw [← h]))
     ·exact .inr h
  ·obtain ⟨Y, hY, hmY, hlY⟩ := akm E k hE d (i + 1) L (by omega) (by omega)
   refine ⟨Y, ?_, fun y => ?_, hlY⟩
   ·rw [decide_eq_false hk, ifF, aj (by omega), hY]
   ·rw [hmY, au h1', List.mem_cons]
    have : ¬ (k, y) = E[i] := fun e => hk (by rw [← e])
    simp [this]
theorem atu (E : List (Bs × Bs)) (k : Bs) (hE : E.length ≤ 1048576) : ∀ (d i : Nat), i + d = E.length → ∃ (r : AV) (X : List Bs), ib.l0 (.sl 2 (bh E)) (.str k) (.own 1 (ar [])) (.int .i64 (i : Int)) = some r ∧ (r = .sl 1 (ar X) ∨ r = .own 1 (ar X)) ∧ (∀ y, y ∈ X ↔ (k, y) ∈ E.drop i) ∧ X.length ≤ E.length
 | 0, i, h => by
  refine ⟨.own 1 (ar []), [], ?_, .inr rfl, by rw [bc (by omega)]; simp, by simp⟩
  rw [ib.ai, ac8, decide_eq_false (by omega), ifF]
 | d + 1, i, h => by
  have h1' : i < E.length := by omega
  have e1 : E[i]? = some E[i] := List.getElem?_eq_getElem h1'
  rw [ib.ai, ac8, decide_eq_true (by omega), ifT, an (ph e1), mg]
  simp only [cf]
  by_cases hk : E[i].1 = k
  ·obtain ⟨r, X, hP, hr, hm, hlen⟩ := att [] E[i].2 (by simp)
   have hP : dk (.sl 1 (ar [])) (.str E[i].2) = some r := hP
   obtain ⟨Y, hY, hmY, hlY⟩ := akm E k hE d (i + 1) X (by omega) (by simp at hlen; omega)
   refine ⟨.sl 1 (ar Y), Y, ?_, .inl rfl, fun y => ?_, hlY⟩
   ·rw [decide_eq_true hk, ifT, an (ph e1)]
    show aa [AV.str E[i].1, .str E[i].2] 1 _ = _
    rw [show ∀ (k : AV → Option AV), aa [AV.str E[i].1, .str E[i].2] 1 k = k (.str E[i].2) from fun k => rfl]
    simp only [cf, hP, ab]
    rcases hr with rfl | rfl
    ·rw [qn, aj (by omega), hY]
    ·rw [show ∀ (k : List (List AV) → Option AV), asL 1 (.own 1 (ar X)) k = k (ar X) from fun k => rfl, aj (by omega), hY]
   ·rw [hmY, hm, au h1', List.mem_cons]
    constructor
    ·rintro ((rfl | h) | h)
     ·exact .inl (by rw [← hk])
     ·cases h
     ·exact .inr h
    ·rintro (h | h)
     ·exact .inl (.inl (by rw [← h]))
     ·exact .inr h
  ·obtain ⟨r, Y, hY, hr, hmY, hlY⟩ := atu E k hE d (i + 1) (by omega)
   refine ⟨r, Y, ?_, hr, fun y => ?_, hlY⟩
   ·rw [decide_eq_false hk, ifF, aj (by omega), hY]
   ·rw [hmY, au h1', List.mem_cons]
    have : ¬ (k, y) = E[i] := fun e => hk (by rw [← e])
    simp [this]
theorem bbu (E : List (Bs × Bs)) (k : Bs) (hE : E.length ≤ 1048576) : ∃ (r : AV) (X : List Bs), ib (.sl 2 (bh E)) (.str k) = some r ∧ (r = .sl 1 (ar X) ∨ r = .own 1 (ar X)) ∧ (∀ y, y ∈ X ↔ (k, y) ∈ E) ∧ X.length ≤ E.length := by
 obtain ⟨r, X, h1, h2, h3, h4⟩ := atu E k hE E.length 0 (by omega)
 rw [e00] at h1
 rw [List.drop_zero] at h3
 exact ⟨r, X, by rw [ib.ae]; exact h1, h2, h3, h4⟩
end Go.Proofs.YtmdimhcjogjcgaaGreatDoor.Lat
