/- The order, weight and depth as the document has them. -/
import Derived.Test.YtmdimhcjogjcgaaGreatDoorGap
set_option linter.all false
noncomputable section
namespace Go.Proofs.YtmdimhcjogjcgaaGreatDoor.Lat
open Go.Proofs.YtmdimhcjogjcgaaGreatDoor.Abs
section
variable {α : Type}
theorem g0 (t : Tm) (k : AV → Option α) : aa (ao t) 0 k = k (.int .i64 t.k) := by cases t; rfl
theorem g1 (t : Tm) (k : AV → Option α) : aa (ao t) 1 k = k (.int .i64 t.lo) := by cases t; rfl
theorem g2 (t : Tm) (k : AV → Option α) : aa (ao t) 2 k = k (.int .i64 t.hi) := by cases t; rfl
theorem g3 (t : Tm) (k : AV → Option α) : aa (ao t) 3 k = k (.str t.s) := by cases t; rfl
theorem g4 (t : Tm) (k : AV → Option α) : aa (ao t) 4 k = k (.bool t.a) := by cases t; rfl
theorem g5 (t : Tm) (k : AV → Option α) : aa (ao t) 5 k = k (.bool t.m) := by cases t; rfl
theorem g6 (t : Tm) (k : AV → Option α) : aa (ao t) 6 k = k (.bool t.o) := by cases t; rfl
theorem g7 (t : Tm) (k : AV → Option α) : aa (ao t) 7 k = k (.sl 2 (cq t.fs)) := by cases t; rfl
theorem h0 (f : Fd) (k : AV → Option α) : aa (kg f) 0 k = k (.str f.n) := by cases f; rfl
theorem h1 (f : Fd) (k : AV → Option α) : aa (kg f) 1 k = k (.sl 8 (al f.v)) := by cases f; rfl
theorem v0 (v : List Tm) (k : AV → Option α) : aa [AV.sl 8 (al v)] 0 k = k (.sl 8 (al v)) := rfl
end
theorem bil (a b x : Int) : ifB (!decide (a = b)) (some (AV.int .i64 (nv a b))) (some (.int .i64 x)) = some (.int .i64 (fx (nv a b) x)) := by
 by_cases h : a = b
 ·have := aln.2 h
  simp [h, ifF, fx, nv]
 ·have : ¬ nv a b = 0 := fun e => h (aln.1 e)
  simp [h, ifT, fx, this]
theorem bim (a b : Bs) (x : Int) : ifB (!decide (a = b)) (some (AV.int .i64 (ru a b))) (some (.int .i64 x)) = some (.int .i64 (fx (ru a b) x)) := by
 by_cases h : a = b
 ·have := ahi.2 h
  simp [h, ifF, fx, ahi.2]
 ·have : ¬ ru a b = 0 := fun e => h (ahi.1 e)
  simp [h, ifT, fx, this]
theorem bio (a b : Bool) (x : Int) : ifB (!(a == b)) (some (AV.int .i64 (flag a - flag b))) (some (.int .i64 x)) = some (.int .i64 (fx (flag a - flag b) x)) := by cases a <;> cases b <;> rfl
theorem akf (t u : Tm) : wx (.agg 8 (ao t)) (.agg 8 (ao u)) = some (.int .i64 (fx (nv t.k u.k) (fx (nv t.lo u.lo) (fx (nv t.hi u.hi) (fx (ru t.s u.s) (fx (flag t.a - flag u.a) (fx (flag t.m - flag u.m) (flag t.o - flag u.o)))))))) := by
 rw [wx.ae]
 simp only [g0, g1, g2, g3, g4, g5, g6, bf, cf, bq, an4, as2, a7f, ab, bil, bim, bio]
theorem bmi (x y z : Int) : ifB (decide (x = 0)) (ifB (!decide (y = 0)) (some (AV.int .i64 y)) (some (AV.int .i64 z))) (ifB (!decide (x = 0)) (some (AV.int .i64 x)) (some (AV.int .i64 z))) = some (.int .i64 (fx (fx x y) z)) := by
 unfold fx
 by_cases hx : x = 0 <;> by_cases hy : y = 0 <;> simp [hx, hy, ifT, ifF]
theorem bmj (x z : Int) : ifB (!decide (x = 0)) (some (AV.int .i64 x)) (some (AV.int .i64 z)) = some (.int .i64 (fx x z)) := by
 unfold fx; by_cases hx : x = 0 <;> simp [hx, ifT, ifF]
theorem an5 (t u : Tm) : nr t u = fx (nv t.k u.k) (fx (nv t.lo u.lo) (fx (nv t.hi u.hi) (fx (ru t.s u.s) (fx (flag t.a - flag u.a) (fx (flag t.m - flag u.m) (fx (flag t.o - flag u.o) (ry t.fs u.fs))))))) := by cases t; rw [nr]; rfl
theorem apd (t u : Tm) (ha : t.fs.length ≤ 1073741824) (h : ∀ f ∈ t.fs, ∀ g ∈ u.fs, ev (.agg 1 [.sl 8 (al f.v)]) (.agg 1 [.sl 8 (al g.v)]) = some (.int .i64 (mv f.v g.v))) :
  ∀ (d i : Nat), i + d = min t.fs.length u.fs.length → fa.l0 (.boxv 8 (ao t) []) (.boxv 8 (ao u) []) (.int .i64 (i : Int)) = some (.int .i64 (ry (t.fs.drop i) (u.fs.drop i)))
 | 0, i, hi => by
  rw [fa.ai]
  simp only [g7, jk, kq, ab, cp, an4, bf]
  have : (decide ((i : Int) < (t.fs.length : Int)) && decide ((i : Int) < (u.fs.length : Int))) = false := by simp; omega
  rw [this, ifF]
  congr 2
  unfold nv
  rcases Nat.lt_trichotomy t.fs.length u.fs.length with hc | hc | hc
  ·rw [bc (l := t.fs) (by omega), au (l := u.fs) (i := i) (by omega), ry, if_pos (by omega)]
  ·rw [bc (l := t.fs) (by omega), bc (l := u.fs) (by omega), ry, if_neg (by omega), if_neg (by omega)]
  ·rw [bc (l := u.fs) (by omega), au (l := t.fs) (i := i) (by omega), ry, if_neg (by omega), if_pos (by omega)]
 | d + 1, i, hi => by
  have h1' : i < t.fs.length := by omega
  have h2' : i < u.fs.length := by omega
  have e1 : t.fs[i]? = some t.fs[i] := List.getElem?_eq_getElem h1'
  have e2 : u.fs[i]? = some u.fs[i] := List.getElem?_eq_getElem h2'
  have hc := h _ (List.getElem_mem h1') _ (List.getElem_mem h2')
  have ih := apd t u ha h d (i + 1) (by omega)
  rw [fa.ai, au (l := t.fs) h1', au (l := u.fs) h2']
  simp only [g7, jk, kq, ab, cp, an (dx e1), an (dx e2), h0, h1, cf, as2, bf, hc, aj (show i < 9223372036854775807 by omega), ih]
  have : (decide ((i : Int) < (t.fs.length : Int)) && decide ((i : Int) < (u.fs.length : Int))) = true := by simp; omega
  rw [this, ifT]
  generalize t.fs[i] = f
  generalize u.fs[i] = g
  obtain ⟨m, q⟩ := f
  obtain ⟨m', q'⟩ := g
  rw [ry]
  simp only [Fd.n, Fd.v]
  exact bmi _ _ _
theorem bbm {t u : Tm} (ha : t.fs.length ≤ 1073741824) (h : ∀ f ∈ t.fs, ∀ g ∈ u.fs, ev (.agg 1 [.sl 8 (al f.v)]) (.agg 1 [.sl 8 (al g.v)]) = some (.int .i64 (mv f.v g.v))) : fa (.agg 8 (ao t)) (.agg 8 (ao u)) = some (.int .i64 (nr t u)) := by
 have hl := apd t u ha h (min t.fs.length u.fs.length) 0 (by omega)
 rw [List.drop_zero, List.drop_zero] at hl
 rw [fa.ae, akf]
 have e0 : ((0 : Nat) : Int) = 0 := rfl
 rw [e0] at hl
 simp only [ab, bf, hl]
 rw [bmj, an5]
 simp only [ay7]
theorem ape (a b : List Tm) (ha : a.length ≤ 1073741824) (h : ∀ t ∈ a, ∀ u ∈ b, fa (.agg 8 (ao t)) (.agg 8 (ao u)) = some (.int .i64 (nr t u))) :
  ∀ (d i : Nat), i + d = min a.length b.length → ev.l0 (.boxv 1 [.sl 8 (al a)] []) (.boxv 1 [.sl 8 (al b)] []) (.int .i64 (i : Int)) = some (.int .i64 (mv (a.drop i) (b.drop i)))
 | 0, i, hi => by
  rw [ev.ai]
  simp only [v0, ic, kq, ab, ct, an4, bf]
  have : (decide ((i : Int) < (a.length : Int)) && decide ((i : Int) < (b.length : Int))) = false := by simp; omega
  rw [this, ifF]
  congr 2
  unfold nv
  rcases Nat.lt_trichotomy a.length b.length with hc | hc | hc
  ·rw [bc (l := a) (by omega), au (l := b) (i := i) (by omega), mv, if_pos (by omega)]
  ·rw [bc (l := a) (by omega), bc (l := b) (by omega), mv, if_neg (by omega), if_neg (by omega)]
  ·rw [bc (l := b) (by omega), au (l := a) (i := i) (by omega), mv, if_neg (by omega), if_pos (by omega)]
 | d + 1, i, hi => by
  have h1' : i < a.length := by omega
  have h2' : i < b.length := by omega
  have e1 : a[i]? = some a[i] := List.getElem?_eq_getElem h1'
  have e2 : b[i]? = some b[i] := List.getElem?_eq_getElem h2'
  have hc := h _ (List.getElem_mem h1') _ (List.getElem_mem h2')
  have ih := ape a b ha h d (i + 1) (by omega)
  rw [ev.ai, au (l := a) h1', au (l := b) h2', mv]
  simp only [v0, ic, kq, ab, ct, an (gm e1), an (gm e2), bf, hc, aj (show i < 9223372036854775807 by omega), ih]
  have : (decide ((i : Int) < (a.length : Int)) && decide ((i : Int) < (b.length : Int))) = true := by simp; omega
  rw [this, ifT]
  generalize nr a[i] b[i] = x
  unfold fx
  by_cases hx : x = 0 <;> simp [hx, ifT, ifF]
theorem as5 (a b : List Tm) (ha : a.length ≤ 1073741824) (h : ∀ t ∈ a, ∀ u ∈ b, fa (.agg 8 (ao t)) (.agg 8 (ao u)) = some (.int .i64 (nr t u))) : ev (.agg 1 [.sl 8 (al a)]) (.agg 1 [.sl 8 (al b)]) = some (.int .i64 (mv a b)) := by
 have hl := ape a b ha h (min a.length b.length) 0 (by omega)
 rw [List.drop_zero, List.drop_zero] at hl
 rw [ev.ae]; exact hl
theorem as6 : ∀ (n : Nat), n ≤ 1073741824 → (∀ t u : Tm, szT t ≤ n → fa (.agg 8 (ao t)) (.agg 8 (ao u)) = some (.int .i64 (nr t u))) ∧ (∀ a b : List Tm, szV a ≤ n → ev (.agg 1 [.sl 8 (al a)]) (.agg 1 [.sl 8 (al b)]) = some (.int .i64 (mv a b)))
 | 0, _ => by
  refine ⟨fun t u ht => ?_, fun a b ha => ?_⟩
  ·rw [fw] at ht; omega
  ·have hl := fh a
   obtain rfl : a = [] := List.eq_nil_of_length_eq_zero (by omega)
   exact as5 [] b (by simp) (fun t ht => by cases ht)
 | n + 1, hn => by
  obtain ⟨hT, hV⟩ := as6 n (by omega)
  have hT' : ∀ t u : Tm, szT t ≤ n + 1 → fa (.agg 8 (ao t)) (.agg 8 (ao u)) = some (.int .i64 (nr t u)) := fun t u ht => by
   rw [fw] at ht
   have hl := gw t.fs
   refine bbm (by omega) fun f hf g hg => hV f.v g.v ?_
   obtain ⟨i, hi⟩ := List.getElem?_of_mem hf
   have := pr hi
   omega
  refine ⟨hT', fun a b ha => ?_⟩
  have hl := fh a
  exact as5 a b (by omega) (fun t ht u hu => hT' t u (by
   obtain ⟨i, hi⟩ := List.getElem?_of_mem ht
   have := se hi
   omega))
theorem as7 {t u : Tm} (h : szT t ≤ 1073741824) : fa (.agg 8 (ao t)) (.agg 8 (ao u)) = some (.int .i64 (nr t u)) := (as6 _ (Nat.le_refl _)).1 t u h
theorem a7h {a b : List Tm} (h : szV a ≤ 1073741824) : ev (.agg 1 [.sl 8 (al a)]) (.agg 1 [.sl 8 (al b)]) = some (.int .i64 (mv a b)) := (as6 _ (Nat.le_refl _)).2 a b h
theorem a7i {a b : List Tm} (h : szV a ≤ 1073741824) : we (.agg 1 [.sl 8 (al a)]) (.agg 1 [.sl 8 (al b)]) = some (.bool (decide (mv a b = 0))) := by
 rw [we.ae, a7h h]; simp only [ab, bf]
theorem as8 (t : Tm) : wtT t = 1 + wtF t.fs := by cases t; rfl
theorem al3 : ∀ n, (∀ fs : List Fd, szF fs ≤ n → wtF fs ≤ szF fs) ∧ (∀ v : List Tm, szV v ≤ n → wtV v ≤ szV v)
 | 0 => by
  refine ⟨fun fs h => ?_, fun v h => ?_⟩
  ·have := gw fs
   obtain rfl : fs = [] := List.eq_nil_of_length_eq_zero (by omega)
   simp [wtF]
  ·have := fh v
   obtain rfl : v = [] := List.eq_nil_of_length_eq_zero (by omega)
   simp [wtV]
 | n + 1 => by
  obtain ⟨hF, hV⟩ := al3 n
  have hF' : ∀ fs : List Fd, szF fs ≤ n + 1 → wtF fs ≤ szF fs := fun fs => by
   induction fs with
   | nil => intro _; simp [wtF]
   | cons f r ih => obtain ⟨m, v⟩ := f; intro h; rw [szF] at h; rw [wtF, szF]; have := hV v (by omega); have := ih (by omega); omega
  refine ⟨hF', fun v => ?_⟩
  induction v with
  | nil => intro _; simp [wtV]
  | cons t r ih => intro h; rw [szV, fw] at h; rw [wtV, szV, fw, as8]; have := hF t.fs (by omega); have := ih (by omega); omega
theorem arp (v : List Tm) : wtV v ≤ szV v := (al3 _).2 v (Nat.le_refl _)
theorem as9 {fs : List Fd} {i : Nat} {f : Fd} (h : fs[i]? = some f) : wtF (fs.drop i) = wtV f.v + wtF (fs.drop (i + 1)) := by
 have hi := (List.getElem?_eq_some_iff.1 h)
 obtain ⟨hl, he⟩ := hi
 rw [au hl, he]; obtain ⟨n, v⟩ := f; rfl
theorem a7j {v : List Tm} {i : Nat} {t : Tm} (h : v[i]? = some t) : wtV (v.drop i) = 1 + wtF t.fs + wtV (v.drop (i + 1)) := by
 have hi := (List.getElem?_eq_some_iff.1 h)
 obtain ⟨hl, he⟩ := hi
 rw [au hl, he, wtV, as8]
theorem ai3 {a b : Nat} (h : a + b < 9223372036854775807) : w64 ((a : Int) + (b : Int)) = ((a + b : Nat) : Int) := by rw [qm (by omega)]; omega
theorem a2d (v : List Tm) (n j : Nat) (t : Tm) (hj : v[j]? = some t) (hl : v.length ≤ 1073741824) (hb : szF t.fs ≤ 1073741824)
  (h : ∀ f ∈ t.fs, db (.agg 1 [.sl 8 (al f.v)]) = some (.int .i64 (wtV f.v)))
  (hn : n ≤ 4294967296)
  (next : ∀ m : Nat, m = n + wtF t.fs → db.l0 (.boxv 1 [.sl 8 (al v)] []) (.int .i64 (m : Int)) (.int .i64 ((j + 1 : Nat) : Int)) = some (.int .i64 ((m + wtV (v.drop (j + 1)) : Nat) : Int))) :
  ∀ (d i m : Nat), i + d = t.fs.length → m + wtF (t.fs.drop i) = n + wtF t.fs → db.l1 (.boxv 1 [.sl 8 (al v)] []) (.int .i64 (m : Int)) (.int .i64 (j : Int)) (.sl 2 (cq t.fs)) (.int .i64 (i : Int)) = some (.int .i64 ((n + wtF t.fs + wtV (v.drop (j + 1)) : Nat) : Int))
 | 0, i, m, hi, hm => by
  rw [db.en, cp, decide_eq_false (by omega), ifF]
  rw [bc (by omega), wtF] at hm
  have hj' : j < v.length := (List.getElem?_eq_some_iff.1 hj).1
  rw [aj (by omega), next m (by omega), ← hm]; rfl
 | d + 1, i, m, hi, hm => by
  have h1' : i < t.fs.length := by omega
  have e1 : t.fs[i]? = some t.fs[i] := List.getElem?_eq_getElem h1'
  have hc := h _ (List.getElem_mem h1')
  have hl := gw t.fs
  have hs := pr e1
  have hw := arp t.fs[i].v
  have hk := as9 e1
  have hF := (al3 _).1 t.fs (Nat.le_refl _)
  rw [db.en, cp, decide_eq_true (by omega), ifT, an (dx e1), h1, hc]
  simp only [ab, bf]
  rw [aj (by omega), ai3 (by omega), a2d v n j t hj ‹_› hb h hn next d (i + 1) _ (by omega) (by omega)]
theorem akg (v : List Tm) (hl : szV v ≤ 1073741824) (h : ∀ t ∈ v, ∀ f ∈ t.fs, db (.agg 1 [.sl 8 (al f.v)]) = some (.int .i64 (wtV f.v))) :
  ∀ (d i n : Nat), i + d = v.length → n + wtV (v.drop i) ≤ wtV v → db.l0 (.boxv 1 [.sl 8 (al v)] []) (.int .i64 (n : Int)) (.int .i64 (i : Int)) = some (.int .i64 ((n + wtV (v.drop i) : Nat) : Int))
 | 0, i, n, hi, hn => by
  rw [db.ai]
  simp only [v0, ic, ct]
  rw [decide_eq_false (by omega), ifF, bc (by omega), wtV]; rfl
 | d + 1, i, n, hi, hn => by
  have h1' : i < v.length := by omega
  have e1 : v[i]? = some v[i] := List.getElem?_eq_getElem h1'
  have hlen := fh v
  have hs := se e1
  rw [fw] at hs
  have hw := arp v
  have hk := a7j e1
  rw [db.ai]
  simp only [v0, ic, ct, an (gm e1), g7, jk]
  rw [decide_eq_true (by omega), ifT, aj (by omega)]
  have := a2d v (n + 1) i v[i] e1 (by omega) (by omega) (h _ (List.getElem_mem h1')) (by omega) (fun m hm => akg v hl h d (i + 1) m (by omega) (by omega)) v[i].fs.length 0 (n + 1) (by omega) (by rw [List.drop_zero])
  have e0 : ((0 : Nat) : Int) = 0 := rfl
  rw [e0] at this
  rw [this, hk]
  congr 3
  omega
theorem ata : ∀ (n : Nat) (v : List Tm), szV v ≤ n → n ≤ 1073741824 → db (.agg 1 [.sl 8 (al v)]) = some (.int .i64 (wtV v))
 | 0, v, h, hn => by
  have hl := fh v
  obtain rfl : v = [] := List.eq_nil_of_length_eq_zero (by omega)
  exact (db.ae _).trans (akg [] (by simp [szV]) (fun t ht => by cases ht) 0 0 0 rfl (by simp))
 | n + 1, v, h, hn => by
  have := akg v (by omega) (fun t ht f hf => ata n f.v (by
   obtain ⟨i, hi⟩ := List.getElem?_of_mem ht
   obtain ⟨k, hk⟩ := List.getElem?_of_mem hf
   have h1 := se hi
   have h2 := pr hk
   rw [fw] at h1
   omega) (by omega)) v.length 0 0 (by omega) (by simp)
  rw [db.ae]
  rw [List.drop_zero, Nat.zero_add] at this
  exact this
end Go.Proofs.YtmdimhcjogjcgaaGreatDoor.Lat
namespace Go.Proofs.YtmdimhcjogjcgaaGreatDoor.Lat
open Go.Proofs.YtmdimhcjogjcgaaGreatDoor.Abs
theorem e00 : ((0 : Nat) : Int) = 0 := rfl
theorem a2e (t : Tm) : dpT t = dpF t.fs := by cases t; rfl
theorem atb {fs : List Fd} {i : Nat} {f : Fd} (h : fs[i]? = some f) : dpF (fs.drop i) = max (dpV f.v + 1) (dpF (fs.drop (i + 1))) := by
 obtain ⟨hl, he⟩ := List.getElem?_eq_some_iff.1 h
 rw [au hl, he]; obtain ⟨n, v⟩ := f; rfl
theorem atc {v : List Tm} {i : Nat} {t : Tm} (h : v[i]? = some t) : dpV (v.drop i) = max (dpF t.fs) (dpV (v.drop (i + 1))) := by
 obtain ⟨hl, he⟩ := List.getElem?_eq_some_iff.1 h
 rw [au hl, he, dpV, a2e]
theorem a2f : ∀ n, (∀ fs : List Fd, szF fs ≤ n → dpF fs ≤ szF fs) ∧ (∀ v : List Tm, szV v ≤ n → dpV v ≤ szV v)
 | 0 => by
  refine ⟨fun fs h => ?_, fun v h => ?_⟩
  ·have := gw fs
   obtain rfl : fs = [] := List.eq_nil_of_length_eq_zero (by omega)
   simp [dpF]
  ·have := fh v
   obtain rfl : v = [] := List.eq_nil_of_length_eq_zero (by omega)
   simp [dpV]
 | n + 1 => by
  obtain ⟨hF, hV⟩ := a2f n
  have hF' : ∀ fs : List Fd, szF fs ≤ n + 1 → dpF fs ≤ szF fs := fun fs => by
   induction fs with
   | nil => intro _; simp [dpF]
   | cons f r ih => obtain ⟨m, v⟩ := f; intro h; rw [szF] at h; rw [dpF, szF]; have := hV v (by omega); have := ih (by omega); omega
  refine ⟨hF', fun v => ?_⟩
  induction v with
  | nil => intro _; simp [dpV]
  | cons t r ih => intro h; rw [szV, fw] at h; rw [dpV, szV, fw, a2e]; have := hF t.fs (by omega); have := ih (by omega); omega
theorem a9y (v : List Tm) : dpV v ≤ szV v := (a2f _).2 v (Nat.le_refl _)
theorem jt {v : List Tm} {t : Tm} {f : Fd} (ht : t ∈ v) (hf : f ∈ t.fs) : szV f.v + 2 ≤ szV v := by
 obtain ⟨i, hi⟩ := List.getElem?_of_mem ht
 obtain ⟨k, hk⟩ := List.getElem?_of_mem hf
 have h1 := se hi
 have h2 := pr hk
 rw [fw] at h1
 omega
theorem atd (v : List Tm) (n j : Nat) (t : Tm) (hj : v[j]? = some t) (hl : v.length ≤ 1073741824) (hb : szF t.fs ≤ 1073741824)
  (h : ∀ f ∈ t.fs, df (.agg 1 [.sl 8 (al f.v)]) = some (.int .i64 (depth f.v : Nat)))
  (next : ∀ m : Nat, m = max n (dpF t.fs) → df.l0 (.boxv 1 [.sl 8 (al v)] []) (.int .i64 (m : Int)) (.int .i64 ((j + 1 : Nat) : Int)) = some (.int .i64 ((1 + max m (dpV (v.drop (j + 1))) : Nat) : Int))) :
  ∀ (d i m : Nat), i + d = t.fs.length → max m (dpF (t.fs.drop i)) = max n (dpF t.fs) → df.l1 (.boxv 1 [.sl 8 (al v)] []) (.int .i64 (m : Int)) (.int .i64 (j : Int)) (.sl 2 (cq t.fs)) (.int .i64 (i : Int)) = some (.int .i64 ((1 + max n (max (dpF t.fs) (dpV (v.drop (j + 1)))) : Nat) : Int))
 | 0, i, m, hi, hm => by
  rw [df.en, cp, decide_eq_false (by omega), ifF]
  rw [bc (by omega), dpF] at hm
  have hj' : j < v.length := (List.getElem?_eq_some_iff.1 hj).1
  rw [aj (by omega), next m (by omega)]
  congr 3
  omega
 | d + 1, i, m, hi, hm => by
  have h1' : i < t.fs.length := by omega
  have e1 : t.fs[i]? = some t.fs[i] := List.getElem?_eq_getElem h1'
  have hc := h _ (List.getElem_mem h1')
  have hl := gw t.fs
  have hk := atb e1
  rw [df.en, cp, decide_eq_true (by omega), ifT, an (dx e1), h1, hc]
  simp only [ab, bf]
  rw [aj (by omega)]
  have hd : depth t.fs[i].v = dpV t.fs[i].v + 1 := rfl
  by_cases hlt : m < depth t.fs[i].v
  ·rw [decide_eq_true (by omega), ifT, atd v n j t hj ‹_› hb h next d (i + 1) _ (by omega) (by omega)]
  ·rw [decide_eq_false (by omega), ifF, atd v n j t hj ‹_› hb h next d (i + 1) _ (by omega) (by omega)]
theorem akh (v : List Tm) (hl : szV v ≤ 1073741824) (h : ∀ t ∈ v, ∀ f ∈ t.fs, df (.agg 1 [.sl 8 (al f.v)]) = some (.int .i64 (depth f.v : Nat))) :
  ∀ (d i n : Nat), i + d = v.length → max n (dpV (v.drop i)) ≤ dpV v → df.l0 (.boxv 1 [.sl 8 (al v)] []) (.int .i64 (n : Int)) (.int .i64 (i : Int)) = some (.int .i64 ((1 + max n (dpV (v.drop i)) : Nat) : Int))
 | 0, i, n, hi, hn => by
  have hw := a9y v
  rw [df.ai]
  simp only [v0, ic, ct]
  rw [decide_eq_false (by omega), ifF, bc (by omega), dpV, show (1 : Int) + (n : Int) = ((1 : Nat) : Int) + (n : Int) from rfl, ai3 (by omega), Nat.max_zero]
 | d + 1, i, n, hi, hn => by
  have h1' : i < v.length := by omega
  have e1 : v[i]? = some v[i] := List.getElem?_eq_getElem h1'
  have hlen := fh v
  have hs := se e1
  rw [fw] at hs
  have hk := atc e1
  rw [df.ai]
  simp only [v0, ic, ct, an (gm e1), g7, jk]
  rw [decide_eq_true (by omega), ifT]
  have := atd v n i v[i] e1 (by omega) (by omega) (h _ (List.getElem_mem h1')) (fun m hm => akh v hl h d (i + 1) m (by omega) (by omega)) v[i].fs.length 0 n (by omega) (by rw [List.drop_zero])
  rw [e00] at this
  rw [this, hk]
theorem a2g : ∀ (n : Nat) (v : List Tm), szV v ≤ n → n ≤ 1073741824 → df (.agg 1 [.sl 8 (al v)]) = some (.int .i64 (depth v : Nat))
 | 0, v, h, hn => by
  have hl := fh v
  obtain rfl : v = [] := List.eq_nil_of_length_eq_zero (by omega)
  exact (df.ae _).trans (akh [] (by simp [szV]) (fun t ht => by cases ht) 0 0 0 rfl (by simp))
 | n + 1, v, h, hn => by
  have := akh v (by omega) (fun t ht f hf => a2g n f.v (by have := jt ht hf; omega) (by omega)) v.length 0 0 (by omega) (by simp)
  rw [df.ae]
  rw [List.drop_zero, Nat.zero_max, Nat.add_comm] at this
  exact this
def wtS : List Tm → Nat
 | [] => 0
 | t :: r => wtF t.fs + wtS r
theorem an6 : ∀ v : List Tm, wtV v = v.length + wtS v
 | [] => rfl
 | t :: r => by rw [wtV, wtS, an6 r, as8, List.length_cons]; omega
theorem a7k {v : List Tm} {i : Nat} {t : Tm} (h : v[i]? = some t) : wtS (v.drop i) = wtF t.fs + wtS (v.drop (i + 1)) := by
 obtain ⟨hl, he⟩ := List.getElem?_eq_some_iff.1 h
 rw [au hl, he, wtS]
theorem a2h (v : List Tm) (n j : Nat) (t : Tm) (hj : v[j]? = some t) (hl : v.length ≤ 1073741824) (hb : szF t.fs ≤ 1073741824)
  (h : ∀ f ∈ t.fs, dp (.agg 1 [.sl 8 (al f.v)]) = some (.int .i64 (wtV f.v)))
  (hn : n ≤ 4294967296)
  (next : ∀ m : Nat, m = n + wtF t.fs → dp.l0 (.int .i64 (m : Int)) (.sl 8 (al v)) (.int .i64 (v.length : Int)) (.int .i64 ((j + 1 : Nat) : Int)) = some (.int .i64 ((m + wtS (v.drop (j + 1)) : Nat) : Int))) :
  ∀ (d i m : Nat), i + d = t.fs.length → m + wtF (t.fs.drop i) = n + wtF t.fs → dp.l1 (.int .i64 (m : Int)) (.sl 8 (al v)) (.int .i64 (v.length : Int)) (.int .i64 (j : Int)) (.sl 2 (cq t.fs)) (.int .i64 (t.fs.length : Int)) (.int .i64 (i : Int)) = some (.int .i64 ((n + wtF t.fs + wtS (v.drop (j + 1)) : Nat) : Int))
 | 0, i, m, hi, hm => by
  rw [dp.en, decide_eq_false (by omega), ifF]
  rw [bc (by omega), wtF] at hm
  have hj' : j < v.length := (List.getElem?_eq_some_iff.1 hj).1
  rw [aj (by omega), next m (by omega), ← hm]; rfl
 | d + 1, i, m, hi, hm => by
  have h1' : i < t.fs.length := by omega
  have e1 : t.fs[i]? = some t.fs[i] := List.getElem?_eq_getElem h1'
  have hc := h _ (List.getElem_mem h1')
  have hl := gw t.fs
  have hs := pr e1
  have hw := arp t.fs[i].v
  have hk := as9 e1
  have hF := (al3 _).1 t.fs (Nat.le_refl _)
  rw [dp.en, decide_eq_true (by omega), ifT, an (dx e1), h1]
  simp only [frz]
  rw [hc]
  simp only [ab, bf]
  rw [aj (by omega), ai3 (by omega), a2h v n j t hj ‹_› hb h hn next d (i + 1) _ (by omega) (by omega)]
theorem ate (v : List Tm) (hl : szV v ≤ 1073741824) (h : ∀ t ∈ v, ∀ f ∈ t.fs, dp (.agg 1 [.sl 8 (al f.v)]) = some (.int .i64 (wtV f.v))) :
  ∀ (d i n : Nat), i + d = v.length → n + wtS (v.drop i) ≤ wtV v → dp.l0 (.int .i64 (n : Int)) (.sl 8 (al v)) (.int .i64 (v.length : Int)) (.int .i64 (i : Int)) = some (.int .i64 ((n + wtS (v.drop i) : Nat) : Int))
 | 0, i, n, hi, hn => by
  rw [dp.ai, decide_eq_false (by omega), ifF, bc (by omega), wtS]; rfl
 | d + 1, i, n, hi, hn => by
  have h1' : i < v.length := by omega
  have e1 : v[i]? = some v[i] := List.getElem?_eq_getElem h1'
  have hlen := fh v
  have hs := se e1
  rw [fw] at hs
  have hw := arp v
  have hk := a7k e1
  rw [dp.ai]
  simp only [an (gm e1), g7, jk]
  rw [decide_eq_true (by omega), ifT, cp]
  have := a2h v n i v[i] e1 (by omega) (by omega) (h _ (List.getElem_mem h1')) (by omega) (fun m hm => ate v hl h d (i + 1) m (by omega) (by omega)) v[i].fs.length 0 n (by omega) (by rw [List.drop_zero])
  rw [e00] at this
  rw [this, hk]
  congr 3
  omega
theorem atf : ∀ (n : Nat) (v : List Tm), szV v ≤ n → n ≤ 1073741824 → dp (.agg 1 [.sl 8 (al v)]) = some (.int .i64 (wtV v))
 | n, v, h, hn => by
  have := ate v (by omega) (fun t ht f hf => atf (n - 1) f.v (by have := jt ht hf; omega) (by omega)) v.length 0 v.length (by omega) (by rw [List.drop_zero, an6]; omega)
  rw [dp.ae]
  simp only [v0, ic, ct]
  rw [List.drop_zero, ← an6] at this
  exact this
termination_by n v => szV v
decreasing_by have := jt ht hf; omega
theorem a7l (s : Bs) : yr (.str s) = some (.int .i64 (Nam.qa s)) := by
 rw [yr.ae]
 unfold Nam.qa
 by_cases h1 : s = [97, 110, 121]
 ·simp [h1, ifT]
 by_cases h2 : s = [98, 111, 111, 108]
 ·simp [h2, ifT, ifF]
 by_cases h3 : s = [99, 111, 109, 112, 117, 116, 101, 100]
 ·simp [h3, ifT, ifF]
 by_cases h4 : s = [102, 97, 108, 115, 101]
 ·simp [h4, ifT, ifF]
 by_cases h5 : s = [105, 110, 116]
 ·simp [h5, ifT, ifF]
 by_cases h6 : s = [110, 111, 110, 101]
 ·simp [h6, ifT, ifF]
 by_cases h7 : s = [114, 101, 115, 111, 117, 114, 99, 101]
 ·simp [h7, ifT, ifF]
 by_cases h8 : s = [115, 116, 114, 105, 110, 103]
 ·simp [h8, ifT, ifF]
 by_cases h9 : s = [116, 114, 117, 101]
 ·simp [h9, ifT, ifF]
 simp [h1, h2, h3, h4, h5, h6, h7, h8, h9, ifF]
theorem bbn (s : Bs) : 0 ≤ Nam.qa s := by
 unfold Nam.qa
 repeat' split
 all_goals decide
theorem bip (c : UInt8) : (!((!(decide (97 ≤ (c.toNat : Int)) && decide ((c.toNat : Int) ≤ 122)) && !(decide (48 ≤ (c.toNat : Int)) && decide ((c.toNat : Int) ≤ 57))) && !decide ((c.toNat : Int) = 95))) = Nam.chB false c.toNat := by
 unfold Nam.chB Nam.acx
 rw [Bool.eq_iff_iff]
 simp
 omega
theorem ajq (s : Bs) (hs : s.length ≤ 1073741824) : ∀ (d i : Nat), i + d = s.length → ir.l0 (.str s) (.int .i64 (i : Int)) = some (.bool (Nam.aea (s.drop i)))
 | 0, i, h => by
  rw [ir.ai, decide_eq_false (by omega), ifF, bc (by omega)]; rfl
 | d + 1, i, h => by
  have h1' : i < s.length := by omega
  have e1 : s[i]? = some s[i] := List.getElem?_eq_getElem h1'
  rw [ir.ai, decide_eq_true (by omega), ifT, au h1']
  simp only [an e1, kq, ab]
  rw [aj (by omega), ajq s hs d (i + 1) (by omega)]
  have hc := bip s[i]
  generalize (!decide ((s[i].toNat : Int) = 95)) = z at hc ⊢
  generalize (!(decide (97 ≤ (s[i].toNat : Int)) && decide ((s[i].toNat : Int) ≤ 122)) && !(decide (48 ≤ (s[i].toNat : Int)) && decide ((s[i].toNat : Int) ≤ 57))) = y at hc ⊢
  rw [show Nam.aea (s[i] :: s.drop (i + 1)) = (Nam.chB false s[i].toNat && Nam.aea (s.drop (i + 1))) from rfl, ← hc]
  cases y <;> cases z <;> rfl
theorem apf (s : Bs) : ir (.str s) = some (.bool (Nam.ep s)) := by
 rw [ir.ae]
 simp only [orK, ab, a7l, bf]
 have hw : decide (0 < Nam.qa s) = !(Nam.qa s == 0) := by
  have := bbn s
  rw [Bool.eq_iff_iff]; simp; omega
 rw [hw]
 cases s with
 | nil =>
  unfold Nam.ep
  simp [ifT, ab]
 | cons c r =>
  have e1 : (c :: r)[0]? = some c := rfl
  have i0 : ∀ {β : Type} (k : UInt8 → Option β), idx (c :: r) 0 k = k c := fun k => an (j := 0) e1 k
  simp only [i0, orK, ab]
  by_cases hs : 16 < (c :: r).length
  ·unfold Nam.ep
   rw [decide_eq_true (p := (16 : Int) < ((c :: r).length : Int)) (by omega), decide_eq_false (p := (c :: r).length ≤ 16) (by omega)]
   simp [ifT]
  have hl := ajq (c :: r) (by omega) r.length 1 (by simp; omega)
  rw [show ((1 : Nat) : Int) = 1 from rfl] at hl
  rw [hl, show (c :: r).drop 1 = r from rfl]
  unfold Nam.ep
  rw [show Nam.af4 (c :: r) = (Nam.chB true c.toNat && Nam.aea r) from rfl]
  unfold Nam.chB Nam.acx
  generalize (Nam.qa (c :: r) == 0) = x
  generalize Nam.aea r = y
  generalize (c :: r).length = n
  generalize c.toNat = q
  have a1 : decide ((n : Int) < 1) = !decide (1 ≤ n) := by rw [Bool.eq_iff_iff]; simp <;> omega
  have a2 : decide (16 < (n : Int)) = !decide (n ≤ 16) := by rw [Bool.eq_iff_iff]; simp <;> omega
  have a3 : decide ((q : Int) < 97) = !decide (97 ≤ q) := by rw [Bool.eq_iff_iff]; simp <;> omega
  have a4 : decide (122 < (q : Int)) = !decide (q ≤ 122) := by rw [Bool.eq_iff_iff]; simp <;> omega
  rw [a1, a2, a3, a4]
  generalize decide (1 ≤ n) = b1
  generalize decide (n ≤ 16) = b2
  generalize decide (97 ≤ q) = b3
  generalize decide (q ≤ 122) = b4
  cases b1 <;> cases b2 <;> cases b3 <;> cases b4 <;> cases x <;> cases y <;> rfl
theorem ac6 (s : Bs) : yt (.str s) = some (.bool (Nam.ep s)) := ahp (f := 101) rfl _
def o4 (fs : List Fd) (i : Nat) : Option Bs := if i = 0 then none else (fs[i - 1]?).map Fd.n
theorem abx {fs : List Fd} {i : Nat} {f : Fd} (h : fs[i]? = some f) : o4 fs (i + 1) = some f.n := by
 unfold o4
 rw [if_neg (by omega), Nat.add_sub_cancel, h]; rfl
theorem rh {n : Nat} (h : n < 9223372036854775807) (h0 : 0 < n) : w64 ((n : Int) - 1) = ((n - 1 : Nat) : Int) := by rw [qm (by omega)]; omega
theorem aaz (R : Bs → Bool) (p : Option Bs) (f : Fd) (r : List Fd) : jc R p (f :: r) = (R f.n && qh p f.n && jc R (some f.n) r) := by cases f; rfl
abbrev zq (fs : List Fd) : List (List AV) := fs.map fun f => [AV.str f.n]
theorem ai4 {fs : List Fd} {i : Nat} {f : Fd} (h : fs[i]? = some f) : (zq fs)[i]? = some [AV.str f.n] := by rw [zq, List.getElem?_map, h]; rfl
theorem apg (fs : List Fd) (hl : fs.length ≤ 1073741824) : ∀ (d i : Nat), i + d = fs.length → fo.l0 (.sl 1 (zq fs)) (.int .i64 (i : Int)) = some (.bool (jc Nam.ep (o4 fs i) (fs.drop i)))
 | 0, i, h => by
  rw [fo.ai, List.length_map, decide_eq_false (by omega), ifF, bc (by omega)]; rfl
 | d + 1, i, h => by
  have h1' : i < fs.length := by omega
  have e1 : fs[i]? = some fs[i] := List.getElem?_eq_getElem h1'
  have ih := apg fs hl d (i + 1) (by omega)
  rw [abx e1] at ih
  rw [fo.ai, List.length_map, decide_eq_true (by omega), ifT, au h1', aaz]
  simp only [an (ai4 e1), mg, cf, apf _, ab, bq]
  rw [aj (by omega), ih]
  by_cases hi0 : i = 0
  ·subst hi0
   rw [e00, decide_eq_false (by omega), ifF]
   simp only [orK, ab]
   cases Nam.ep fs[0].n <;> simp [ifT, ifF, o4, qh]
  ·have e2 : fs[i - 1]? = some fs[i - 1] := List.getElem?_eq_getElem (by omega)
   rw [decide_eq_true (by omega), ifT, rh (by omega) (by omega)]
   simp only [an (ai4 e2), mg, cf, ab, orK]
   have : o4 fs i = some fs[i - 1].n := by unfold o4; rw [if_neg hi0, e2]; rfl
   rw [this, qh]
   cases Nam.ep fs[i].n <;> cases aw fs[i - 1].n fs[i].n <;> simp [ifT, ifF]
theorem aw4 (fs : List Fd) (hl : fs.length ≤ 1073741824) : fo (.sl 1 (zq fs)) = some (.bool (jc Nam.ep none fs)) := by
 rw [fo.ae]
 exact apg fs hl fs.length 0 (by omega)
theorem al4 (fs : List Fd) (hl : fs.length ≤ 1073741824) : ∀ (d i : Nat), i + d = fs.length → jy.l0 (.sl 2 (cq fs)) (.own 1 (zq (fs.take i))) (.int .i64 (i : Int)) = some (.bool (jc Nam.ep none fs))
 | 0, i, h => by
  rw [jy.ai, cp, decide_eq_false (by omega), ifF, List.take_of_length_le (by omega), aw4 fs hl]; rfl
 | d + 1, i, h => by
  have h1' : i < fs.length := by omega
  have e1 : fs[i]? = some fs[i] := List.getElem?_eq_getElem h1'
  have ih := al4 fs hl d (i + 1) (by omega)
  rw [jy.ai, cp, decide_eq_true (by omega), ifT]
  simp only [an (dx e1), h0, cf]
  have hg : Nat.ble ((zq (fs.take i)).length + [[AV.str fs[i].n]].length) lim = true := by
   rw [List.length_map, List.length_take]
   rw [Nat.ble_eq]
   simp only [lim, List.length_cons, List.length_nil]; omega
  have ht : zq (fs.take (i + 1)) = zq (fs.take i) ++ [[AV.str fs[i].n]] := by
   rw [List.take_add_one, e1]; simp only [zq, List.map_append]; rfl
  rw [hg, guT, aj (by omega), ← ih, ht]
theorem a7m (fs : List Fd) (hl : fs.length ≤ 1073741824) : jy (.sl 2 (cq fs)) = some (.bool (jc Nam.ep none fs)) := by
 rw [jy.ae]
 exact al4 fs hl fs.length 0 (by omega)
theorem a2i (a b : Bs) : (aw b a || decide (b = a)) = !aw a b := by
 cases h : aw a b with
 | true =>
  have := acr a b h
  rw [this]
  have : ¬ b = a := fun e => by subst e; rw [mo] at h; cases h
  simp [this]
 | false =>
  cases h2 : aw b a with
  | true => rfl
  | false => have := vc a b h h2; simp [this]
theorem aph (fs : List Fd) (hl : fs.length ≤ 1073741824) : ∀ (d i : Nat), i + d = fs.length → lk.l0 (.sl 2 (cq fs)) (.sl 2 (cq fs)) (.int .i64 (fs.length : Int)) (.int .i64 (i : Int)) = some (.bool (jc Nam.ep (o4 fs i) (fs.drop i)))
 | 0, i, h => by
  rw [lk.ai, decide_eq_false (by omega), ifF, bc (by omega)]; rfl
 | d + 1, i, h => by
  have h1' : i < fs.length := by omega
  have e1 : fs[i]? = some fs[i] := List.getElem?_eq_getElem h1'
  have ih := aph fs hl d (i + 1) (by omega)
  rw [abx e1] at ih
  rw [lk.ai, decide_eq_true (by omega), ifT, au h1', aaz]
  simp only [an (dx e1), h0, cf, ac6, ab, bq]
  rw [aj (by omega), ih]
  by_cases hi0 : i = 0
  ·subst hi0
   rw [e00, decide_eq_false (by omega), ifF]
   simp only [orK, ab]
   cases Nam.ep fs[0].n <;> simp [ifT, ifF, o4, qh]
  ·have e2 : fs[i - 1]? = some fs[i - 1] := List.getElem?_eq_getElem (by omega)
   rw [decide_eq_true (by omega), ifT, rh (by omega) (by omega)]
   simp only [an (dx e2), h0, cf, ab, orK, a2i]
   have : o4 fs i = some fs[i - 1].n := by unfold o4; rw [if_neg hi0, e2]; rfl
   rw [this, qh]
   cases Nam.ep fs[i].n <;> cases aw fs[i - 1].n fs[i].n <;> simp [ifT, ifF]
theorem bbo (fs : List Fd) (hl : fs.length ≤ 1073741824) : lk (.sl 2 (cq fs)) = some (.bool (jc Nam.ep none fs)) := by
 rw [lk.ae, cp]
 exact aph fs hl fs.length 0 (by omega)
abbrev Rn := Nam.ep
def Found (fs : List Fd) (s : Bs) (k : Int) : Prop := (k = -1 ∧ findF fs s = none) ∨ (∃ (j : Nat) (f : Fd), k = (j : Int) ∧ fs[j]? = some f ∧ f.n = s ∧ findF fs s = some f.v)
theorem al5 (f : Fd) (r : List Fd) (s : Bs) : findF (f :: r) s = if f.n = s then some f.v else findF r s := by cases f; rfl
theorem api : ∀ (fs : List Fd) (s : Bs), (∀ f ∈ fs, f.n ≠ s) → findF fs s = none
 | [], s, h => rfl
 | f :: r, s, h => by rw [al5, if_neg (h f (List.mem_cons_self ..)), api r s fun g hg => h g (List.mem_cons_of_mem _ hg)]
theorem al6 (fs : List Fd) (s : Bs) (hl : fs.length ≤ 1073741824) (hall : findF fs s = findF fs s) : ∀ (d i : Nat), i + d = fs.length → findF (fs.drop i) s = findF fs s → ∃ k, kj.l0 (.sl 2 (cq fs)) (.str s) (.int .i64 (i : Int)) = some (.int .i64 k) ∧ Found fs s k
 | 0, i, h, hf => by
  refine ⟨-1, ?_, Or.inl ⟨rfl, ?_⟩⟩
  ·rw [kj.ai, cp, decide_eq_false (by omega), ifF]
  ·rw [← hf, bc (by omega)]; rfl
 | d + 1, i, h, hf => by
  have h1' : i < fs.length := by omega
  have e1 : fs[i]? = some fs[i] := List.getElem?_eq_getElem h1'
  rw [au h1', al5] at hf
  rw [kj.ai, cp, decide_eq_true (by omega), ifT]
  simp only [an (dx e1), h0, cf]
  by_cases he : fs[i].n = s
  ·rw [if_pos he] at hf
   exact ⟨i, by rw [decide_eq_true he, ifT], Or.inr ⟨i, _, rfl, e1, he, hf.symm⟩⟩
  ·rw [if_neg he] at hf
   obtain ⟨k, hk, hF⟩ := al6 fs s hl hall d (i + 1) (by omega) hf
   exact ⟨k, by rw [decide_eq_false he, ifF, aj (by omega), hk], hF⟩
theorem atg (fs : List Fd) (s : Bs) (hl : fs.length ≤ 1073741824) : ∃ k, kj (.sl 2 (cq fs)) (.str s) = some (.int .i64 k) ∧ Found fs s k := by
 rw [kj.ae]
 exact al6 fs s hl rfl fs.length 0 (by omega) rfl
theorem tf (R : Bs → Bool) : ∀ (fs : List Fd) (p : Option Bs), jc R p fs = true → ∀ (i j : Nat) (f g : Fd), i < j → fs[i]? = some f → fs[j]? = some g → aw f.n g.n = true
 | [], p, h, i, j, f, g, hij, hi, hj => by simp at hi
 | x :: r, p, h, i, j, f, g, hij, hi, hj => by
  have ht := asi R h
  obtain ⟨j, rfl⟩ : ∃ j', j = j' + 1 := ⟨j - 1, by omega⟩
  rw [List.getElem?_cons_succ] at hj
  cases i with
  | zero =>
   rw [List.getElem?_cons_zero] at hi
   cases hi
   exact ash R r _ ht g (List.mem_of_getElem? hj)
  | succ i =>
   rw [List.getElem?_cons_succ] at hi
   exact tf R r _ ht i j f g (by omega) hi hj
theorem bfu (a b : Nat) (h : a + b ≤ 4294967296) : w64 (Int.fdiv (IntKind.wrap .u64 (w64 ((a : Int) + (b : Int)))) (2 ^ (min (1 : Int).toNat (IntKind.bits .u64)))) = (((a + b) / 2 : Nat) : Int) := by
 rw [ai3 (by omega)]
 have e1 : IntKind.wrap .u64 ((a + b : Nat) : Int) = ((a + b : Nat) : Int) := by
  simp [IntKind.wrap, IntKind.bits, IntKind.signed]; omega
 rw [e1]
 have e2 : (2 : Int) ^ (min (1 : Int).toNat (IntKind.bits .u64)) = 2 := by decide
 rw [e2, Int.fdiv_eq_ediv_of_nonneg _ (by omega), qm (by omega)]
 omega
theorem aw5 (f : Fd) (s : Bs) : ah S 262 ([AV.agg 2 (kg f), AV.str s] ++ []) = some (.int .i64 (if aw f.n s = true then -1 else if f.n = s then 0 else 1)) := by
 have : abv (.agg 2 (kg f)) (.str s) = some (.int .i64 (if aw f.n s = true then -1 else if f.n = s then 0 else 1)) := by
  rw [abv.ae]
  simp only [h0, cf]
  cases h : aw f.n s with
  | true => simp [ifT]
  | false => by_cases he : f.n = s <;> simp [he, ifT, ifF]
 exact this
theorem bbp (fs : List Fd) (s : Bs) (p : Option Bs) (hr : jc Rn p fs = true) (hl : fs.length ≤ 1073741824) : ∀ (d lo hi : Nat), hi - lo ≤ d → lo ≤ hi → hi ≤ fs.length → (∀ j f, j < lo → fs[j]? = some f → aw f.n s = true) → (∀ j f, hi ≤ j → fs[j]? = some f → aw f.n s = false) →
  ∃ (k : Nat) (b : Bool), cb.l0 (.sl 2 (cq fs)) (.str s) (.fn 262 []) (.int .i64 (fs.length : Int)) (.int .i64 (lo : Int)) (.int .i64 (hi : Int)) = some (.tup [.int .i64 (k : Int), .bool b]) ∧ (b = true → ∃ f, fs[k]? = some f ∧ f.n = s) ∧ (b = false → ∀ f ∈ fs, f.n ≠ s) := by
 intro d
 induction d with
 | zero =>
  intro lo hi hd hle hhi hA hB
  obtain rfl : lo = hi := by omega
  rw [cb.ai, decide_eq_false (by omega), ifF]
  by_cases hlt : lo < fs.length
  ·have e1 : fs[lo]? = some fs[lo] := List.getElem?_eq_getElem hlt
   rw [decide_eq_true (by omega), ifT]
   simp only [an (dx e1), aw5, ab, bf]
   have hb := hB lo _ (Nat.le_refl _) e1
   refine ⟨lo, _, rfl, fun hb' => ?_, fun hb' f hf he => ?_⟩
   ·rw [hb] at hb'
    by_cases he : fs[lo].n = s
    ·exact ⟨_, e1, he⟩
    ·simp [he] at hb'
   ·obtain ⟨j, hj⟩ := List.getElem?_of_mem hf
    rcases Nat.lt_trichotomy j lo with hc | hc | hc
    ·have := hA j f hc hj
     rw [he, mo] at this; cases this
    ·subst hc
     rw [e1] at hj; cases hj
     rw [hb] at hb'
     simp [he] at hb'
    ·have h1 := tf Rn fs p hr lo j _ _ hc e1 hj
     rw [he, hb] at h1; cases h1
  ·rw [decide_eq_false (by omega), ifF]
   refine ⟨lo, false, rfl, fun hb' => Bool.noConfusion hb', fun _ f hf he => ?_⟩
   obtain ⟨j, hj⟩ := List.getElem?_of_mem hf
   have hjl := (List.getElem?_eq_some_iff.1 hj).1
   have := hA j f (by omega) hj
   rw [he, mo] at this; cases this
 | succ d ih =>
  intro lo hi hd hle hhi hA hB
  by_cases heq : lo = hi
  ·exact ih lo hi (by omega) hle hhi hA hB
  rw [cb.ai, decide_eq_true (by omega), ifT, decide_eq_true (by omega), guT, bfu lo hi (by omega)]
  have hm : (lo + hi) / 2 < fs.length := by omega
  generalize hq : (lo + hi) / 2 = m at hm ⊢
  have e1 : fs[m]? = some fs[m] := List.getElem?_eq_getElem hm
  simp only [an (dx e1), aw5, ab, bf]
  rw [aj (by omega)]
  cases hb : aw fs[m].n s with
  | true =>
   rw [if_pos rfl, decide_eq_true (by omega), ifT]
   refine ih (m + 1) hi (by omega) (by omega) hhi (fun j f hj hf => ?_) hB
   rcases Nat.lt_or_ge j m with hc | hc
   ·exact x9 _ _ _ (tf Rn fs p hr j m _ _ hc hf e1) hb
   ·obtain rfl : j = m := by omega
    rw [e1] at hf; cases hf; exact hb
  | false =>
   rw [if_neg (by simp)]
   have : decide ((if fs[m].n = s then (0 : Int) else 1) < 0) = false := by split <;> rfl
   rw [this, ifF]
   refine ih lo m (by omega) (by omega) (by omega) hA (fun j f hj hf => ?_)
   rcases Nat.lt_or_ge m j with hc | hc
   ·have h1 := tf Rn fs p hr m j _ _ hc e1 hf
    cases h2 : aw f.n s with
    | false => rfl
    | true => have := x9 _ _ _ h1 h2; rw [hb] at this; cases this
   ·obtain rfl : j = m := by omega
    rw [e1] at hf; cases hf; exact hb
theorem ath (fs : List Fd) (s : Bs) (p : Option Bs) (hr : jc Rn p fs = true) (hl : fs.length ≤ 1073741824) : ∃ k, zn (.sl 2 (cq fs)) (.str s) = some (.int .i64 k) ∧ Found fs s k := by
 rw [zn.ae, cb.ae, cp]
 obtain ⟨k, b, h, h1, h2⟩ := bbp fs s p hr hl fs.length 0 fs.length (by omega) (by omega) (Nat.le_refl _) (fun j f hj => by omega) (fun j f hj hf => by have := (List.getElem?_eq_some_iff.1 hf).1; omega)
 rw [e00] at h
 rw [h]
 simp only [ab, agd, bf, bq]
 cases b with
 | true =>
  obtain ⟨f, hf, he⟩ := h1 rfl
  refine ⟨k, rfl, Or.inr ⟨k, f, rfl, hf, he, ?_⟩⟩
  rw [← he]; exact asj Rn fs p hr f (List.mem_of_getElem? hf)
 | false => exact ⟨-1, rfl, Or.inl ⟨rfl, api fs s (h2 rfl)⟩⟩
theorem ati (fs : List Fd) (g : Nat) (c : List AV) (q : Fd → Bool) (hl : fs.length ≤ 1073741824) (h : ∀ f ∈ fs, ah S g ([AV.agg 2 (kg f)] ++ c) = some (.bool (q f))) : ∀ (d i : Nat), i + d = fs.length → ∃ k : Int, dj.l0 (.sl 2 (cq fs)) (.fn g c) (.int .i64 (fs.length : Int)) (.int .i64 (i : Int)) = some (.int .i64 k) ∧ decide (0 ≤ k) = (fs.drop i).any q
 | 0, i, hi => ⟨-1, by rw [dj.ai, decide_eq_false (by omega), ifF], by rw [bc (by omega)]; rfl⟩
 | d + 1, i, hi => by
  have h1' : i < fs.length := by omega
  have e1 : fs[i]? = some fs[i] := List.getElem?_eq_getElem h1'
  rw [dj.ai, decide_eq_true (by omega), ifT, an (dx e1), h _ (List.getElem_mem h1'), au h1', List.any_cons]
  simp only [ab, bq]
  cases q fs[i] with
  | true => exact ⟨i, rfl, by simp⟩
  | false => rw [ifF, aj (by omega), Bool.false_or]; exact ati fs g c q hl h d (i + 1) (by omega)
theorem aw6 (fs : List Fd) (g : Nat) (c : List AV) (q : Fd → Bool) (hl : fs.length ≤ 1073741824) (h : ∀ f ∈ fs, ah S g ([AV.agg 2 (kg f)] ++ c) = some (.bool (q f))) : ig (.sl 2 (cq fs)) (.fn g c) = some (.bool (fs.any q)) := by
 obtain ⟨k, hk, hq⟩ := ati fs g c q hl h fs.length 0 (by omega)
 rw [e00] at hk
 rw [ig.ae, dj.ae, cp, hk]
 simp only [ab, bf, hq, List.drop_zero]
theorem atj (v : List Tm) (g : Nat) (c : List AV) (q : Tm → Bool) (hl : v.length ≤ 1073741824) (h : ∀ t ∈ v, ah S g ([AV.agg 8 (ao t)] ++ c) = some (.bool (q t))) : ∀ (d i : Nat), i + d = v.length → ∃ k : Int, dt.l0 (.sl 8 (al v)) (.fn g c) (.int .i64 (v.length : Int)) (.int .i64 (i : Int)) = some (.int .i64 k) ∧ decide (0 ≤ k) = (v.drop i).any q
 | 0, i, hi => ⟨-1, by rw [dt.ai, decide_eq_false (by omega), ifF], by rw [bc (by omega)]; rfl⟩
 | d + 1, i, hi => by
  have h1' : i < v.length := by omega
  have e1 : v[i]? = some v[i] := List.getElem?_eq_getElem h1'
  rw [dt.ai, decide_eq_true (by omega), ifT, an (gm e1), h _ (List.getElem_mem h1'), au h1', List.any_cons]
  simp only [ab, bq]
  cases q v[i] with
  | true => exact ⟨i, rfl, by simp⟩
  | false => rw [ifF, aj (by omega), Bool.false_or]; exact atj v g c q hl h d (i + 1) (by omega)
theorem bbq (v : List Tm) (g : Nat) (c : List AV) (q : Tm → Bool) (hl : v.length ≤ 1073741824) (h : ∀ t ∈ v, ah S g ([AV.agg 8 (ao t)] ++ c) = some (.bool (q t))) : ko (.sl 8 (al v)) (.fn g c) = some (.bool (v.any q)) := by
 obtain ⟨k, hk, hq⟩ := atj v g c q hl h v.length 0 (by omega)
 rw [e00] at hk
 rw [ko.ae, dt.ae, ct, hk]
 simp only [ab, bf, hq, List.drop_zero]
end Go.Proofs.YtmdimhcjogjcgaaGreatDoor.Lat
