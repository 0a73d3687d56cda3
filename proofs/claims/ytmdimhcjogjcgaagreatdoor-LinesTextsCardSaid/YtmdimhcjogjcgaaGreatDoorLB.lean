/- The order, weight and depth as the document has them. -/
import Derived.Test.YtmdimhcjogjcgaaGreatDoorLA
set_option linter.unusedVariables false
set_option linter.unusedSimpArgs false
set_option linter.unusedSectionVars false
set_option linter.deprecated false
set_option linter.unnecessarySimpa false
namespace Go.Proofs.YtmdimhcjogjcgaaGreatDoor.Lat
open Go.Proofs.YtmdimhcjogjcgaaGreatDoor.Abs
section
variable {α : Type}
theorem g0 (t : Tm) (k : AV → Option α) : getC (encT t) 0 k = k (.int .i64 t.k) := by cases t; rfl
theorem g1 (t : Tm) (k : AV → Option α) : getC (encT t) 1 k = k (.int .i64 t.lo) := by cases t; rfl
theorem g2 (t : Tm) (k : AV → Option α) : getC (encT t) 2 k = k (.int .i64 t.hi) := by cases t; rfl
theorem g3 (t : Tm) (k : AV → Option α) : getC (encT t) 3 k = k (.str t.s) := by cases t; rfl
theorem g4 (t : Tm) (k : AV → Option α) : getC (encT t) 4 k = k (.bool t.a) := by cases t; rfl
theorem g5 (t : Tm) (k : AV → Option α) : getC (encT t) 5 k = k (.bool t.m) := by cases t; rfl
theorem g6 (t : Tm) (k : AV → Option α) : getC (encT t) 6 k = k (.bool t.o) := by cases t; rfl
theorem g7 (t : Tm) (k : AV → Option α) : getC (encT t) 7 k = k (.sl 2 (encF t.fs)) := by cases t; rfl
theorem h0 (f : Fd) (k : AV → Option α) : getC (encFd f) 0 k = k (.str f.n) := by cases f; rfl
theorem h1 (f : Fd) (k : AV → Option α) : getC (encFd f) 1 k = k (.sl 8 (encV f.v)) := by cases f; rfl
theorem v0 (v : List Tm) (k : AV → Option α) : getC [AV.sl 8 (encV v)] 0 k = k (.sl 8 (encV v)) := rfl
end
theorem stepI (a b x : Int) : ifB (!decide (a = b)) (some (AV.int .i64 (cmpI a b))) (some (.int .i64 x)) = some (.int .i64 (fst0 (cmpI a b) x)) := by
  by_cases h : a = b
  · have := cmpI_0.2 h
    simp [h, ifF, fst0, cmpI]
  · have : ¬ cmpI a b = 0 := fun e => h (cmpI_0.1 e)
    simp [h, ifT, fst0, this]
theorem stepS (a b : Bs) (x : Int) : ifB (!decide (a = b)) (some (AV.int .i64 (cmpS a b))) (some (.int .i64 x)) = some (.int .i64 (fst0 (cmpS a b) x)) := by
  by_cases h : a = b
  · have := cmpS_0.2 h
    simp [h, ifF, fst0, cmpS_0.2]
  · have : ¬ cmpS a b = 0 := fun e => h (cmpS_0.1 e)
    simp [h, ifT, fst0, this]
theorem stepB (a b : Bool) (x : Int) : ifB (!(a == b)) (some (AV.int .i64 (flag a - flag b))) (some (.int .i64 x)) = some (.int .i64 (fst0 (flag a - flag b) x)) := by cases a <;> cases b <;> rfl
theorem plain_is (t u : Tm) : ref08_plain (.agg 8 (encT t)) (.agg 8 (encT u)) = some (.int .i64 (fst0 (cmpI t.k u.k) (fst0 (cmpI t.lo u.lo) (fst0 (cmpI t.hi u.hi) (fst0 (cmpS t.s u.s) (fst0 (flag t.a - flag u.a) (fst0 (flag t.m - flag u.m) (flag t.o - flag u.o)))))))) := by
  rw [ref08_plain.f_eq]
  simp only [g0, g1, g2, g3, g4, g5, g6, asI_, asS_, asB_, nums_is, texts_is, bools_is, someB, stepI, stepS, stepB]
theorem keyF (x y z : Int) : ifB (decide (x = 0)) (ifB (!decide (y = 0)) (some (AV.int .i64 y)) (some (AV.int .i64 z))) (ifB (!decide (x = 0)) (some (AV.int .i64 x)) (some (AV.int .i64 z))) = some (.int .i64 (fst0 (fst0 x y) z)) := by
  unfold fst0
  by_cases hx : x = 0 <;> by_cases hy : y = 0 <;> simp [hx, hy, ifT, ifF]
theorem keyZ (x z : Int) : ifB (!decide (x = 0)) (some (AV.int .i64 x)) (some (AV.int .i64 z)) = some (.int .i64 (fst0 x z)) := by
  unfold fst0; by_cases hx : x = 0 <;> simp [hx, ifT, ifF]
theorem cmpT_eq (t u : Tm) : cmpT t u = fst0 (cmpI t.k u.k) (fst0 (cmpI t.lo u.lo) (fst0 (cmpI t.hi u.hi) (fst0 (cmpS t.s u.s) (fst0 (flag t.a - flag u.a) (fst0 (flag t.m - flag u.m) (fst0 (flag t.o - flag u.o) (cmpF t.fs u.fs))))))) := by cases t; rw [cmpT]; rfl
theorem refF_loop (t u : Tm) (ha : t.fs.length ≤ 1073741824) (h : ∀ f ∈ t.fs, ∀ g ∈ u.fs, ref08_Compare (.agg 1 [.sl 8 (encV f.v)]) (.agg 1 [.sl 8 (encV g.v)]) = some (.int .i64 (cmpV f.v g.v))) :
    ∀ (d i : Nat), i + d = min t.fs.length u.fs.length → ref08_Terms.l0 (.boxv 8 (encT t) []) (.boxv 8 (encT u) []) (.int .i64 (i : Int)) = some (.int .i64 (cmpF (t.fs.drop i) (u.fs.drop i)))
  | 0, i, hi => by
    rw [ref08_Terms.l0_eq]
    simp only [g7, asL2, andK, someB, encF_len, nums_is, asI_]
    have : (decide ((i : Int) < (t.fs.length : Int)) && decide ((i : Int) < (u.fs.length : Int))) = false := by simp; omega
    rw [this, ifF]
    congr 2
    unfold cmpI
    rcases Nat.lt_trichotomy t.fs.length u.fs.length with hc | hc | hc
    · rw [dropNil (l := t.fs) (by omega), dropCons (l := u.fs) (i := i) (by omega), cmpF, if_pos (by omega)]
    · rw [dropNil (l := t.fs) (by omega), dropNil (l := u.fs) (by omega), cmpF, if_neg (by omega), if_neg (by omega)]
    · rw [dropNil (l := u.fs) (by omega), dropCons (l := t.fs) (i := i) (by omega), cmpF, if_neg (by omega), if_pos (by omega)]
  | d + 1, i, hi => by
    have h1' : i < t.fs.length := by omega
    have h2' : i < u.fs.length := by omega
    have e1 : t.fs[i]? = some t.fs[i] := List.getElem?_eq_getElem h1'
    have e2 : u.fs[i]? = some u.fs[i] := List.getElem?_eq_getElem h2'
    have hc := h _ (List.getElem_mem h1') _ (List.getElem_mem h2')
    have ih := refF_loop t u ha h d (i + 1) (by omega)
    rw [ref08_Terms.l0_eq, dropCons (l := t.fs) h1', dropCons (l := u.fs) h2']
    simp only [g7, asL2, andK, someB, encF_len, idx_at (encFd_at e1), idx_at (encFd_at e2), h0, h1, asS_, texts_is, asI_, hc, w64_succ (show i < 9223372036854775807 by omega), ih]
    have : (decide ((i : Int) < (t.fs.length : Int)) && decide ((i : Int) < (u.fs.length : Int))) = true := by simp; omega
    rw [this, ifT]
    generalize t.fs[i] = f
    generalize u.fs[i] = g
    obtain ⟨m, q⟩ := f
    obtain ⟨m', q'⟩ := g
    rw [cmpF]
    simp only [Fd.n, Fd.v]
    exact keyF _ _ _
theorem refT_is {t u : Tm} (ha : t.fs.length ≤ 1073741824) (h : ∀ f ∈ t.fs, ∀ g ∈ u.fs, ref08_Compare (.agg 1 [.sl 8 (encV f.v)]) (.agg 1 [.sl 8 (encV g.v)]) = some (.int .i64 (cmpV f.v g.v))) : ref08_Terms (.agg 8 (encT t)) (.agg 8 (encT u)) = some (.int .i64 (cmpT t u)) := by
  have hl := refF_loop t u ha h (min t.fs.length u.fs.length) 0 (by omega)
  rw [List.drop_zero, List.drop_zero] at hl
  rw [ref08_Terms.f_eq, plain_is]
  have e0 : ((0 : Nat) : Int) = 0 := rfl
  rw [e0] at hl
  simp only [someB, asI_, hl]
  rw [keyZ, cmpT_eq]
  simp only [fst0_assoc]
theorem refV_loop (a b : List Tm) (ha : a.length ≤ 1073741824) (h : ∀ t ∈ a, ∀ u ∈ b, ref08_Terms (.agg 8 (encT t)) (.agg 8 (encT u)) = some (.int .i64 (cmpT t u))) :
    ∀ (d i : Nat), i + d = min a.length b.length → ref08_Compare.l0 (.boxv 1 [.sl 8 (encV a)] []) (.boxv 1 [.sl 8 (encV b)] []) (.int .i64 (i : Int)) = some (.int .i64 (cmpV (a.drop i) (b.drop i)))
  | 0, i, hi => by
    rw [ref08_Compare.l0_eq]
    simp only [v0, asL8, andK, someB, encV_len, nums_is, asI_]
    have : (decide ((i : Int) < (a.length : Int)) && decide ((i : Int) < (b.length : Int))) = false := by simp; omega
    rw [this, ifF]
    congr 2
    unfold cmpI
    rcases Nat.lt_trichotomy a.length b.length with hc | hc | hc
    · rw [dropNil (l := a) (by omega), dropCons (l := b) (i := i) (by omega), cmpV, if_pos (by omega)]
    · rw [dropNil (l := a) (by omega), dropNil (l := b) (by omega), cmpV, if_neg (by omega), if_neg (by omega)]
    · rw [dropNil (l := b) (by omega), dropCons (l := a) (i := i) (by omega), cmpV, if_neg (by omega), if_pos (by omega)]
  | d + 1, i, hi => by
    have h1' : i < a.length := by omega
    have h2' : i < b.length := by omega
    have e1 : a[i]? = some a[i] := List.getElem?_eq_getElem h1'
    have e2 : b[i]? = some b[i] := List.getElem?_eq_getElem h2'
    have hc := h _ (List.getElem_mem h1') _ (List.getElem_mem h2')
    have ih := refV_loop a b ha h d (i + 1) (by omega)
    rw [ref08_Compare.l0_eq, dropCons (l := a) h1', dropCons (l := b) h2', cmpV]
    simp only [v0, asL8, andK, someB, encV_len, idx_at (encT_at e1), idx_at (encT_at e2), asI_, hc, w64_succ (show i < 9223372036854775807 by omega), ih]
    have : (decide ((i : Int) < (a.length : Int)) && decide ((i : Int) < (b.length : Int))) = true := by simp; omega
    rw [this, ifT]
    generalize cmpT a[i] b[i] = x
    unfold fst0
    by_cases hx : x = 0 <;> simp [hx, ifT, ifF]
theorem refCmp_V (a b : List Tm) (ha : a.length ≤ 1073741824) (h : ∀ t ∈ a, ∀ u ∈ b, ref08_Terms (.agg 8 (encT t)) (.agg 8 (encT u)) = some (.int .i64 (cmpT t u))) : ref08_Compare (.agg 1 [.sl 8 (encV a)]) (.agg 1 [.sl 8 (encV b)]) = some (.int .i64 (cmpV a b)) := by
  have hl := refV_loop a b ha h (min a.length b.length) 0 (by omega)
  rw [List.drop_zero, List.drop_zero] at hl
  rw [ref08_Compare.f_eq]; exact hl
theorem ref_is : ∀ (n : Nat), n ≤ 1073741824 → (∀ t u : Tm, szT t ≤ n → ref08_Terms (.agg 8 (encT t)) (.agg 8 (encT u)) = some (.int .i64 (cmpT t u))) ∧ (∀ a b : List Tm, szV a ≤ n → ref08_Compare (.agg 1 [.sl 8 (encV a)]) (.agg 1 [.sl 8 (encV b)]) = some (.int .i64 (cmpV a b)))
  | 0, _ => by
    refine ⟨fun t u ht => ?_, fun a b ha => ?_⟩
    · rw [szT_fs] at ht; omega
    · have hl := szV_len a
      obtain rfl : a = [] := List.eq_nil_of_length_eq_zero (by omega)
      exact refCmp_V [] b (by simp) (fun t ht => by cases ht)
  | n + 1, hn => by
    obtain ⟨hT, hV⟩ := ref_is n (by omega)
    have hT' : ∀ t u : Tm, szT t ≤ n + 1 → ref08_Terms (.agg 8 (encT t)) (.agg 8 (encT u)) = some (.int .i64 (cmpT t u)) := fun t u ht => by
      rw [szT_fs] at ht
      have hl := szF_len t.fs
      refine refT_is (by omega) fun f hf g hg => hV f.v g.v ?_
      obtain ⟨i, hi⟩ := List.getElem?_of_mem hf
      have := szFd_get hi
      omega
    refine ⟨hT', fun a b ha => ?_⟩
    have hl := szV_len a
    exact refCmp_V a b (by omega) (fun t ht u hu => hT' t u (by
      obtain ⟨i, hi⟩ := List.getElem?_of_mem ht
      have := szT_get hi
      omega))
theorem ref8T_is {t u : Tm} (h : szT t ≤ 1073741824) : ref08_Terms (.agg 8 (encT t)) (.agg 8 (encT u)) = some (.int .i64 (cmpT t u)) := (ref_is _ (Nat.le_refl _)).1 t u h
/-! Weight and depth -/
theorem wtT_fs (t : Tm) : wtT t = 1 + wtF t.fs := by cases t; rfl
theorem wtV_sz : ∀ n, (∀ fs : List Fd, szF fs ≤ n → wtF fs ≤ szF fs) ∧ (∀ v : List Tm, szV v ≤ n → wtV v ≤ szV v)
  | 0 => by
    refine ⟨fun fs h => ?_, fun v h => ?_⟩
    · have := szF_len fs
      obtain rfl : fs = [] := List.eq_nil_of_length_eq_zero (by omega)
      simp [wtF]
    · have := szV_len v
      obtain rfl : v = [] := List.eq_nil_of_length_eq_zero (by omega)
      simp [wtV]
  | n + 1 => by
    obtain ⟨hF, hV⟩ := wtV_sz n
    have hF' : ∀ fs : List Fd, szF fs ≤ n + 1 → wtF fs ≤ szF fs := fun fs => by
      induction fs with
      | nil => intro _; simp [wtF]
      | cons f r ih => obtain ⟨m, v⟩ := f; intro h; rw [szF] at h; rw [wtF, szF]; have := hV v (by omega); have := ih (by omega); omega
    refine ⟨hF', fun v => ?_⟩
    induction v with
    | nil => intro _; simp [wtV]
    | cons t r ih => intro h; rw [szV, szT_fs] at h; rw [wtV, szV, szT_fs, wtT_fs]; have := hF t.fs (by omega); have := ih (by omega); omega
theorem wt_sz (v : List Tm) : wtV v ≤ szV v := (wtV_sz _).2 v (Nat.le_refl _)
theorem wtF_take {fs : List Fd} {i : Nat} {f : Fd} (h : fs[i]? = some f) : wtF (fs.drop i) = wtV f.v + wtF (fs.drop (i + 1)) := by
  have hi := (List.getElem?_eq_some_iff.1 h)
  obtain ⟨hl, he⟩ := hi
  rw [dropCons hl, he]; obtain ⟨n, v⟩ := f; rfl
theorem wtV_take {v : List Tm} {i : Nat} {t : Tm} (h : v[i]? = some t) : wtV (v.drop i) = 1 + wtF t.fs + wtV (v.drop (i + 1)) := by
  have hi := (List.getElem?_eq_some_iff.1 h)
  obtain ⟨hl, he⟩ := hi
  rw [dropCons hl, he, wtV, wtT_fs]
theorem w64_add {a b : Nat} (h : a + b < 9223372036854775807) : w64 ((a : Int) + (b : Int)) = ((a + b : Nat) : Int) := by rw [w64_id (by omega)]; omega
/-- The document's weight. -/
theorem wt8_in (v : List Tm) (n j : Nat) (t : Tm) (hj : v[j]? = some t) (hl : v.length ≤ 1073741824) (hb : szF t.fs ≤ 1073741824)
    (h : ∀ f ∈ t.fs, ref08_Weight (.agg 1 [.sl 8 (encV f.v)]) = some (.int .i64 (wtV f.v)))
    (hn : n ≤ 4294967296)
    (next : ∀ m : Nat, m = n + wtF t.fs → ref08_Weight.l0 (.boxv 1 [.sl 8 (encV v)] []) (.int .i64 (m : Int)) (.int .i64 ((j + 1 : Nat) : Int)) = some (.int .i64 ((m + wtV (v.drop (j + 1)) : Nat) : Int))) :
    ∀ (d i m : Nat), i + d = t.fs.length → m + wtF (t.fs.drop i) = n + wtF t.fs → ref08_Weight.l1 (.boxv 1 [.sl 8 (encV v)] []) (.int .i64 (m : Int)) (.int .i64 (j : Int)) (.sl 2 (encF t.fs)) (.int .i64 (i : Int)) = some (.int .i64 ((n + wtF t.fs + wtV (v.drop (j + 1)) : Nat) : Int))
  | 0, i, m, hi, hm => by
    rw [ref08_Weight.l1_eq, encF_len, decide_eq_false (by omega), ifF]
    rw [dropNil (by omega), wtF] at hm
    have hj' : j < v.length := (List.getElem?_eq_some_iff.1 hj).1
    rw [w64_succ (by omega), next m (by omega), ← hm]; rfl
  | d + 1, i, m, hi, hm => by
    have h1' : i < t.fs.length := by omega
    have e1 : t.fs[i]? = some t.fs[i] := List.getElem?_eq_getElem h1'
    have hc := h _ (List.getElem_mem h1')
    have hl := szF_len t.fs
    have hs := szFd_get e1
    have hw := wt_sz t.fs[i].v
    have hk := wtF_take e1
    have hF := (wtV_sz _).1 t.fs (Nat.le_refl _)
    rw [ref08_Weight.l1_eq, encF_len, decide_eq_true (by omega), ifT, idx_at (encFd_at e1), h1, hc]
    simp only [someB, asI_]
    rw [w64_succ (by omega), w64_add (by omega), wt8_in v n j t hj ‹_› hb h hn next d (i + 1) _ (by omega) (by omega)]
theorem wt8_loop (v : List Tm) (hl : szV v ≤ 1073741824) (h : ∀ t ∈ v, ∀ f ∈ t.fs, ref08_Weight (.agg 1 [.sl 8 (encV f.v)]) = some (.int .i64 (wtV f.v))) :
    ∀ (d i n : Nat), i + d = v.length → n + wtV (v.drop i) ≤ wtV v → ref08_Weight.l0 (.boxv 1 [.sl 8 (encV v)] []) (.int .i64 (n : Int)) (.int .i64 (i : Int)) = some (.int .i64 ((n + wtV (v.drop i) : Nat) : Int))
  | 0, i, n, hi, hn => by
    rw [ref08_Weight.l0_eq]
    simp only [v0, asL8, encV_len]
    rw [decide_eq_false (by omega), ifF, dropNil (by omega), wtV]; rfl
  | d + 1, i, n, hi, hn => by
    have h1' : i < v.length := by omega
    have e1 : v[i]? = some v[i] := List.getElem?_eq_getElem h1'
    have hlen := szV_len v
    have hs := szT_get e1
    rw [szT_fs] at hs
    have hw := wt_sz v
    have hk := wtV_take e1
    rw [ref08_Weight.l0_eq]
    simp only [v0, asL8, encV_len, idx_at (encT_at e1), g7, asL2]
    rw [decide_eq_true (by omega), ifT, w64_succ (by omega)]
    have := wt8_in v (n + 1) i v[i] e1 (by omega) (by omega) (h _ (List.getElem_mem h1')) (by omega) (fun m hm => wt8_loop v hl h d (i + 1) m (by omega) (by omega)) v[i].fs.length 0 (n + 1) (by omega) (by rw [List.drop_zero])
    have e0 : ((0 : Nat) : Int) = 0 := rfl
    rw [e0] at this
    rw [this, hk]
    congr 3
    omega
theorem wt8_is : ∀ (n : Nat) (v : List Tm), szV v ≤ n → n ≤ 1073741824 → ref08_Weight (.agg 1 [.sl 8 (encV v)]) = some (.int .i64 (wtV v))
  | 0, v, h, hn => by
    have hl := szV_len v
    obtain rfl : v = [] := List.eq_nil_of_length_eq_zero (by omega)
    exact (ref08_Weight.f_eq _).trans (wt8_loop [] (by simp [szV]) (fun t ht => by cases ht) 0 0 0 rfl (by simp))
  | n + 1, v, h, hn => by
    have := wt8_loop v (by omega) (fun t ht f hf => wt8_is n f.v (by
      obtain ⟨i, hi⟩ := List.getElem?_of_mem ht
      obtain ⟨k, hk⟩ := List.getElem?_of_mem hf
      have h1 := szT_get hi
      have h2 := szFd_get hk
      rw [szT_fs] at h1
      omega) (by omega)) v.length 0 0 (by omega) (by simp)
    rw [ref08_Weight.f_eq]
    rw [List.drop_zero, Nat.zero_add] at this
    exact this
theorem e00 : ((0 : Nat) : Int) = 0 := rfl
theorem dpT_fs (t : Tm) : dpT t = dpF t.fs := by cases t; rfl
theorem dpF_take {fs : List Fd} {i : Nat} {f : Fd} (h : fs[i]? = some f) : dpF (fs.drop i) = max (dpV f.v + 1) (dpF (fs.drop (i + 1))) := by
  obtain ⟨hl, he⟩ := List.getElem?_eq_some_iff.1 h
  rw [dropCons hl, he]; obtain ⟨n, v⟩ := f; rfl
theorem dpV_take {v : List Tm} {i : Nat} {t : Tm} (h : v[i]? = some t) : dpV (v.drop i) = max (dpF t.fs) (dpV (v.drop (i + 1))) := by
  obtain ⟨hl, he⟩ := List.getElem?_eq_some_iff.1 h
  rw [dropCons hl, he, dpV, dpT_fs]
theorem dp_szN : ∀ n, (∀ fs : List Fd, szF fs ≤ n → dpF fs ≤ szF fs) ∧ (∀ v : List Tm, szV v ≤ n → dpV v ≤ szV v)
  | 0 => by
    refine ⟨fun fs h => ?_, fun v h => ?_⟩
    · have := szF_len fs
      obtain rfl : fs = [] := List.eq_nil_of_length_eq_zero (by omega)
      simp [dpF]
    · have := szV_len v
      obtain rfl : v = [] := List.eq_nil_of_length_eq_zero (by omega)
      simp [dpV]
  | n + 1 => by
    obtain ⟨hF, hV⟩ := dp_szN n
    have hF' : ∀ fs : List Fd, szF fs ≤ n + 1 → dpF fs ≤ szF fs := fun fs => by
      induction fs with
      | nil => intro _; simp [dpF]
      | cons f r ih => obtain ⟨m, v⟩ := f; intro h; rw [szF] at h; rw [dpF, szF]; have := hV v (by omega); have := ih (by omega); omega
    refine ⟨hF', fun v => ?_⟩
    induction v with
    | nil => intro _; simp [dpV]
    | cons t r ih => intro h; rw [szV, szT_fs] at h; rw [dpV, szV, szT_fs, dpT_fs]; have := hF t.fs (by omega); have := ih (by omega); omega
theorem dp_sz (v : List Tm) : dpV v ≤ szV v := (dp_szN _).2 v (Nat.le_refl _)
theorem szV_dp {v : List Tm} {t : Tm} {f : Fd} (ht : t ∈ v) (hf : f ∈ t.fs) : szV f.v + 2 ≤ szV v := by
  obtain ⟨i, hi⟩ := List.getElem?_of_mem ht
  obtain ⟨k, hk⟩ := List.getElem?_of_mem hf
  have h1 := szT_get hi
  have h2 := szFd_get hk
  rw [szT_fs] at h1
  omega
theorem dp8_in (v : List Tm) (n j : Nat) (t : Tm) (hj : v[j]? = some t) (hl : v.length ≤ 1073741824) (hb : szF t.fs ≤ 1073741824)
    (h : ∀ f ∈ t.fs, ref08_Depth (.agg 1 [.sl 8 (encV f.v)]) = some (.int .i64 (depth f.v : Nat)))
    (next : ∀ m : Nat, m = max n (dpF t.fs) → ref08_Depth.l0 (.boxv 1 [.sl 8 (encV v)] []) (.int .i64 (m : Int)) (.int .i64 ((j + 1 : Nat) : Int)) = some (.int .i64 ((1 + max m (dpV (v.drop (j + 1))) : Nat) : Int))) :
    ∀ (d i m : Nat), i + d = t.fs.length → max m (dpF (t.fs.drop i)) = max n (dpF t.fs) → ref08_Depth.l1 (.boxv 1 [.sl 8 (encV v)] []) (.int .i64 (m : Int)) (.int .i64 (j : Int)) (.sl 2 (encF t.fs)) (.int .i64 (i : Int)) = some (.int .i64 ((1 + max n (max (dpF t.fs) (dpV (v.drop (j + 1)))) : Nat) : Int))
  | 0, i, m, hi, hm => by
    rw [ref08_Depth.l1_eq, encF_len, decide_eq_false (by omega), ifF]
    rw [dropNil (by omega), dpF] at hm
    have hj' : j < v.length := (List.getElem?_eq_some_iff.1 hj).1
    rw [w64_succ (by omega), next m (by omega)]
    congr 3
    omega
  | d + 1, i, m, hi, hm => by
    have h1' : i < t.fs.length := by omega
    have e1 : t.fs[i]? = some t.fs[i] := List.getElem?_eq_getElem h1'
    have hc := h _ (List.getElem_mem h1')
    have hl := szF_len t.fs
    have hk := dpF_take e1
    rw [ref08_Depth.l1_eq, encF_len, decide_eq_true (by omega), ifT, idx_at (encFd_at e1), h1, hc]
    simp only [someB, asI_]
    rw [w64_succ (by omega)]
    have hd : depth t.fs[i].v = dpV t.fs[i].v + 1 := rfl
    by_cases hlt : m < depth t.fs[i].v
    · rw [decide_eq_true (by omega), ifT, dp8_in v n j t hj ‹_› hb h next d (i + 1) _ (by omega) (by omega)]
    · rw [decide_eq_false (by omega), ifF, dp8_in v n j t hj ‹_› hb h next d (i + 1) _ (by omega) (by omega)]
theorem dp8_loop (v : List Tm) (hl : szV v ≤ 1073741824) (h : ∀ t ∈ v, ∀ f ∈ t.fs, ref08_Depth (.agg 1 [.sl 8 (encV f.v)]) = some (.int .i64 (depth f.v : Nat))) :
    ∀ (d i n : Nat), i + d = v.length → max n (dpV (v.drop i)) ≤ dpV v → ref08_Depth.l0 (.boxv 1 [.sl 8 (encV v)] []) (.int .i64 (n : Int)) (.int .i64 (i : Int)) = some (.int .i64 ((1 + max n (dpV (v.drop i)) : Nat) : Int))
  | 0, i, n, hi, hn => by
    have hw := dp_sz v
    rw [ref08_Depth.l0_eq]
    simp only [v0, asL8, encV_len]
    rw [decide_eq_false (by omega), ifF, dropNil (by omega), dpV, show (1 : Int) + (n : Int) = ((1 : Nat) : Int) + (n : Int) from rfl, w64_add (by omega), Nat.max_zero]
  | d + 1, i, n, hi, hn => by
    have h1' : i < v.length := by omega
    have e1 : v[i]? = some v[i] := List.getElem?_eq_getElem h1'
    have hlen := szV_len v
    have hs := szT_get e1
    rw [szT_fs] at hs
    have hk := dpV_take e1
    rw [ref08_Depth.l0_eq]
    simp only [v0, asL8, encV_len, idx_at (encT_at e1), g7, asL2]
    rw [decide_eq_true (by omega), ifT]
    have := dp8_in v n i v[i] e1 (by omega) (by omega) (h _ (List.getElem_mem h1')) (fun m hm => dp8_loop v hl h d (i + 1) m (by omega) (by omega)) v[i].fs.length 0 n (by omega) (by rw [List.drop_zero])
    rw [e00] at this
    rw [this, hk]
theorem dp8_is : ∀ (n : Nat) (v : List Tm), szV v ≤ n → n ≤ 1073741824 → ref08_Depth (.agg 1 [.sl 8 (encV v)]) = some (.int .i64 (depth v : Nat))
  | 0, v, h, hn => by
    have hl := szV_len v
    obtain rfl : v = [] := List.eq_nil_of_length_eq_zero (by omega)
    exact (ref08_Depth.f_eq _).trans (dp8_loop [] (by simp [szV]) (fun t ht => by cases ht) 0 0 0 rfl (by simp))
  | n + 1, v, h, hn => by
    have := dp8_loop v (by omega) (fun t ht f hf => dp8_is n f.v (by have := szV_dp ht hf; omega) (by omega)) v.length 0 0 (by omega) (by simp)
    rw [ref08_Depth.f_eq]
    rw [List.drop_zero, Nat.zero_max, Nat.add_comm] at this
    exact this
/-! The program's weight -/
def wtS : List Tm → Nat
  | [] => 0
  | t :: r => wtF t.fs + wtS r
theorem wtS_len : ∀ v : List Tm, wtV v = v.length + wtS v
  | [] => rfl
  | t :: r => by rw [wtV, wtS, wtS_len r, wtT_fs, List.length_cons]; omega
theorem wtS_take {v : List Tm} {i : Nat} {t : Tm} (h : v[i]? = some t) : wtS (v.drop i) = wtF t.fs + wtS (v.drop (i + 1)) := by
  obtain ⟨hl, he⟩ := List.getElem?_eq_some_iff.1 h
  rw [dropCons hl, he, wtS]
theorem wtR_in (v : List Tm) (n j : Nat) (t : Tm) (hj : v[j]? = some t) (hl : v.length ≤ 1073741824) (hb : szF t.fs ≤ 1073741824)
    (h : ∀ f ∈ t.fs, rank_Weight (.agg 1 [.sl 8 (encV f.v)]) = some (.int .i64 (wtV f.v)))
    (hn : n ≤ 4294967296)
    (next : ∀ m : Nat, m = n + wtF t.fs → rank_Weight.l0 (.int .i64 (m : Int)) (.sl 8 (encV v)) (.int .i64 (v.length : Int)) (.int .i64 ((j + 1 : Nat) : Int)) = some (.int .i64 ((m + wtS (v.drop (j + 1)) : Nat) : Int))) :
    ∀ (d i m : Nat), i + d = t.fs.length → m + wtF (t.fs.drop i) = n + wtF t.fs → rank_Weight.l1 (.int .i64 (m : Int)) (.sl 8 (encV v)) (.int .i64 (v.length : Int)) (.int .i64 (j : Int)) (.sl 2 (encF t.fs)) (.int .i64 (t.fs.length : Int)) (.int .i64 (i : Int)) = some (.int .i64 ((n + wtF t.fs + wtS (v.drop (j + 1)) : Nat) : Int))
  | 0, i, m, hi, hm => by
    rw [rank_Weight.l1_eq, decide_eq_false (by omega), ifF]
    rw [dropNil (by omega), wtF] at hm
    have hj' : j < v.length := (List.getElem?_eq_some_iff.1 hj).1
    rw [w64_succ (by omega), next m (by omega), ← hm]; rfl
  | d + 1, i, m, hi, hm => by
    have h1' : i < t.fs.length := by omega
    have e1 : t.fs[i]? = some t.fs[i] := List.getElem?_eq_getElem h1'
    have hc := h _ (List.getElem_mem h1')
    have hl := szF_len t.fs
    have hs := szFd_get e1
    have hw := wt_sz t.fs[i].v
    have hk := wtF_take e1
    have hF := (wtV_sz _).1 t.fs (Nat.le_refl _)
    rw [rank_Weight.l1_eq, decide_eq_true (by omega), ifT, idx_at (encFd_at e1), h1]
    simp only [frz]
    rw [hc]
    simp only [someB, asI_]
    rw [w64_succ (by omega), w64_add (by omega), wtR_in v n j t hj ‹_› hb h hn next d (i + 1) _ (by omega) (by omega)]
theorem wtR_loop (v : List Tm) (hl : szV v ≤ 1073741824) (h : ∀ t ∈ v, ∀ f ∈ t.fs, rank_Weight (.agg 1 [.sl 8 (encV f.v)]) = some (.int .i64 (wtV f.v))) :
    ∀ (d i n : Nat), i + d = v.length → n + wtS (v.drop i) ≤ wtV v → rank_Weight.l0 (.int .i64 (n : Int)) (.sl 8 (encV v)) (.int .i64 (v.length : Int)) (.int .i64 (i : Int)) = some (.int .i64 ((n + wtS (v.drop i) : Nat) : Int))
  | 0, i, n, hi, hn => by
    rw [rank_Weight.l0_eq, decide_eq_false (by omega), ifF, dropNil (by omega), wtS]; rfl
  | d + 1, i, n, hi, hn => by
    have h1' : i < v.length := by omega
    have e1 : v[i]? = some v[i] := List.getElem?_eq_getElem h1'
    have hlen := szV_len v
    have hs := szT_get e1
    rw [szT_fs] at hs
    have hw := wt_sz v
    have hk := wtS_take e1
    rw [rank_Weight.l0_eq]
    simp only [idx_at (encT_at e1), g7, asL2]
    rw [decide_eq_true (by omega), ifT, encF_len]
    have := wtR_in v n i v[i] e1 (by omega) (by omega) (h _ (List.getElem_mem h1')) (by omega) (fun m hm => wtR_loop v hl h d (i + 1) m (by omega) (by omega)) v[i].fs.length 0 n (by omega) (by rw [List.drop_zero])
    rw [e00] at this
    rw [this, hk]
    congr 3
    omega
theorem wtR_is : ∀ (n : Nat) (v : List Tm), szV v ≤ n → n ≤ 1073741824 → rank_Weight (.agg 1 [.sl 8 (encV v)]) = some (.int .i64 (wtV v))
  | n, v, h, hn => by
    have := wtR_loop v (by omega) (fun t ht f hf => wtR_is (n - 1) f.v (by have := szV_dp ht hf; omega) (by omega)) v.length 0 v.length (by omega) (by rw [List.drop_zero, wtS_len]; omega)
    rw [rank_Weight.f_eq]
    simp only [v0, asL8, encV_len]
    rw [List.drop_zero, ← wtS_len] at this
    exact this
termination_by n v => szV v
decreasing_by have := szV_dp ht hf; omega
theorem word2_is (s : Bs) : ref02_Word (.str s) = some (.int .i64 (Nam.wordV s)) := by
  rw [ref02_Word.f_eq]
  unfold Nam.wordV
  by_cases h1 : s = [97, 110, 121]
  · simp [h1, ifT]
  by_cases h2 : s = [98, 111, 111, 108]
  · simp [h2, ifT, ifF]
  by_cases h3 : s = [99, 111, 109, 112, 117, 116, 101, 100]
  · simp [h3, ifT, ifF]
  by_cases h4 : s = [102, 97, 108, 115, 101]
  · simp [h4, ifT, ifF]
  by_cases h5 : s = [105, 110, 116]
  · simp [h5, ifT, ifF]
  by_cases h6 : s = [110, 111, 110, 101]
  · simp [h6, ifT, ifF]
  by_cases h7 : s = [114, 101, 115, 111, 117, 114, 99, 101]
  · simp [h7, ifT, ifF]
  by_cases h8 : s = [115, 116, 114, 105, 110, 103]
  · simp [h8, ifT, ifF]
  by_cases h9 : s = [116, 114, 117, 101]
  · simp [h9, ifT, ifF]
  simp [h1, h2, h3, h4, h5, h6, h7, h8, h9, ifF]
theorem word_nn (s : Bs) : 0 ≤ Nam.wordV s := by
  unfold Nam.wordV
  repeat' split
  all_goals decide
theorem ch_is (c : UInt8) : (!((!(decide (97 ≤ (c.toNat : Int)) && decide ((c.toNat : Int) ≤ 122)) && !(decide (48 ≤ (c.toNat : Int)) && decide ((c.toNat : Int) ≤ 57))) && !decide ((c.toNat : Int) = 95))) = Nam.chB false c.toNat := by
  unfold Nam.chB Nam.smallB
  rw [Bool.eq_iff_iff]
  simp
  omega
theorem right2_loop (s : Bs) (hs : s.length ≤ 1073741824) : ∀ (d i : Nat), i + d = s.length → ref02_Right.l0 (.str s) (.int .i64 (i : Int)) = some (.bool (Nam.tailB (s.drop i)))
  | 0, i, h => by
    rw [ref02_Right.l0_eq, decide_eq_false (by omega), ifF, dropNil (by omega)]; rfl
  | d + 1, i, h => by
    have h1' : i < s.length := by omega
    have e1 : s[i]? = some s[i] := List.getElem?_eq_getElem h1'
    rw [ref02_Right.l0_eq, decide_eq_true (by omega), ifT, dropCons h1']
    simp only [idx_at e1, andK, someB]
    rw [w64_succ (by omega), right2_loop s hs d (i + 1) (by omega)]
    have hc := ch_is s[i]
    generalize (!decide ((s[i].toNat : Int) = 95)) = z at hc ⊢
    generalize (!(decide (97 ≤ (s[i].toNat : Int)) && decide ((s[i].toNat : Int) ≤ 122)) && !(decide (48 ≤ (s[i].toNat : Int)) && decide ((s[i].toNat : Int) ≤ 57))) = y at hc ⊢
    rw [show Nam.tailB (s[i] :: s.drop (i + 1)) = (Nam.chB false s[i].toNat && Nam.tailB (s.drop (i + 1))) from rfl, ← hc]
    cases y <;> cases z <;> rfl
theorem right2_is (s : Bs) : ref02_Right (.str s) = some (.bool (Nam.rightV s)) := by
  rw [ref02_Right.f_eq]
  simp only [orK, someB, word2_is, asI_]
  have hw : decide (0 < Nam.wordV s) = !(Nam.wordV s == 0) := by
    have := word_nn s
    rw [Bool.eq_iff_iff]; simp; omega
  rw [hw]
  cases s with
  | nil =>
    unfold Nam.rightV
    simp [ifT, someB]
  | cons c r =>
    have e1 : (c :: r)[0]? = some c := rfl
    have i0 : ∀ {β : Type} (k : UInt8 → Option β), idx (c :: r) 0 k = k c := fun k => idx_at (j := 0) e1 k
    simp only [i0, orK, someB]
    by_cases hs : 16 < (c :: r).length
    · unfold Nam.rightV
      rw [decide_eq_true (p := (16 : Int) < ((c :: r).length : Int)) (by omega), decide_eq_false (p := (c :: r).length ≤ 16) (by omega)]
      simp [ifT]
    have hl := right2_loop (c :: r) (by omega) r.length 1 (by simp; omega)
    rw [show ((1 : Nat) : Int) = 1 from rfl] at hl
    rw [hl, show (c :: r).drop 1 = r from rfl]
    unfold Nam.rightV
    rw [show Nam.bodyB (c :: r) = (Nam.chB true c.toNat && Nam.tailB r) from rfl]
    unfold Nam.chB Nam.smallB
    generalize (Nam.wordV (c :: r) == 0) = x
    generalize Nam.tailB r = y
    generalize (c :: r).length = n
    generalize c.toNat = q
    have a1 : decide ((n : Int) < 1) = !decide (1 ≤ n) := by rw [Bool.eq_iff_iff]; simp <;> omega
    have a2 : decide (16 < (n : Int)) = !decide (n ≤ 16) := by rw [Bool.eq_iff_iff]; simp <;> omega
    have a3 : decide ((q : Int) < 97) = !decide (97 ≤ q) := by rw [Bool.eq_iff_iff]; simp <;> omega
    have a4 : decide (122 < (q : Int)) = !decide (q ≤ 122) := by rw [Bool.eq_iff_iff]; simp <;> omega
    rw [a1, a2, a3, a4]
    generalize decide (1 ≤ n) = b1
    generalize decide (n ≤ 16) = b2
    generalize decide (97 ≤ q) = b3
    generalize decide (q ≤ 122) = b4
    cases b1 <;> cases b2 <;> cases b3 <;> cases b4 <;> cases x <;> cases y <;> rfl
theorem nameR_is (s : Bs) : name_Right (.str s) = some (.bool (Nam.rightV s)) := oracle_is (f := 101) rfl _
/-- The name before the i-th. -/
def prevN (fs : List Fd) (i : Nat) : Option Bs := if i = 0 then none else (fs[i - 1]?).map Fd.n
theorem prevN_succ {fs : List Fd} {i : Nat} {f : Fd} (h : fs[i]? = some f) : prevN fs (i + 1) = some f.n := by
  unfold prevN
  rw [if_neg (by omega), Nat.add_sub_cancel, h]; rfl
theorem w64_pred {n : Nat} (h : n < 9223372036854775807) (h0 : 0 < n) : w64 ((n : Int) - 1) = ((n - 1 : Nat) : Int) := by rw [w64_id (by omega)]; omega
theorem risF_cons (R : Bs → Bool) (p : Option Bs) (f : Fd) (r : List Fd) : risF R p (f :: r) = (R f.n && rises p f.n && risF R (some f.n) r) := by cases f; rfl
abbrev encN (fs : List Fd) : List (List AV) := fs.map fun f => [AV.str f.n]
theorem encN_at {fs : List Fd} {i : Nat} {f : Fd} (h : fs[i]? = some f) : (encN fs)[i]? = some [AV.str f.n] := by rw [encN, List.getElem?_map, h]; rfl
theorem ris2_loop (fs : List Fd) (hl : fs.length ≤ 1073741824) : ∀ (d i : Nat), i + d = fs.length → ref02_Rising.l0 (.sl 1 (encN fs)) (.int .i64 (i : Int)) = some (.bool (risF Nam.rightV (prevN fs i) (fs.drop i)))
  | 0, i, h => by
    rw [ref02_Rising.l0_eq, List.length_map, decide_eq_false (by omega), ifF, dropNil (by omega)]; rfl
  | d + 1, i, h => by
    have h1' : i < fs.length := by omega
    have e1 : fs[i]? = some fs[i] := List.getElem?_eq_getElem h1'
    have ih := ris2_loop fs hl d (i + 1) (by omega)
    rw [prevN_succ e1] at ih
    rw [ref02_Rising.l0_eq, List.length_map, decide_eq_true (by omega), ifT, dropCons h1', risF_cons]
    simp only [idx_at (encN_at e1), getC0, asS_, right2_is _, someB, asB_]
    rw [w64_succ (by omega), ih]
    by_cases hi0 : i = 0
    · subst hi0
      rw [e00, decide_eq_false (by omega), ifF]
      simp only [orK, someB]
      cases Nam.rightV fs[0].n <;> simp [ifT, ifF, prevN, rises]
    · have e2 : fs[i - 1]? = some fs[i - 1] := List.getElem?_eq_getElem (by omega)
      rw [decide_eq_true (by omega), ifT, w64_pred (by omega) (by omega)]
      simp only [idx_at (encN_at e2), getC0, asS_, someB, orK]
      have : prevN fs i = some fs[i - 1].n := by unfold prevN; rw [if_neg hi0, e2]; rfl
      rw [this, rises]
      cases Nam.rightV fs[i].n <;> cases bytesLt fs[i - 1].n fs[i].n <;> simp [ifT, ifF]
theorem ris2_is (fs : List Fd) (hl : fs.length ≤ 1073741824) : ref02_Rising (.sl 1 (encN fs)) = some (.bool (risF Nam.rightV none fs)) := by
  rw [ref02_Rising.f_eq]
  exact ris2_loop fs hl fs.length 0 (by omega)
theorem names_loop (fs : List Fd) (hl : fs.length ≤ 1073741824) : ∀ (d i : Nat), i + d = fs.length → ref09_names.l0 (.sl 2 (encF fs)) (.own 1 (encN (fs.take i))) (.int .i64 (i : Int)) = some (.bool (risF Nam.rightV none fs))
  | 0, i, h => by
    rw [ref09_names.l0_eq, encF_len, decide_eq_false (by omega), ifF, List.take_of_length_le (by omega), ris2_is fs hl]; rfl
  | d + 1, i, h => by
    have h1' : i < fs.length := by omega
    have e1 : fs[i]? = some fs[i] := List.getElem?_eq_getElem h1'
    have ih := names_loop fs hl d (i + 1) (by omega)
    rw [ref09_names.l0_eq, encF_len, decide_eq_true (by omega), ifT]
    simp only [idx_at (encFd_at e1), h0, asS_]
    have hg : Nat.ble ((encN (fs.take i)).length + [[AV.str fs[i].n]].length) lim = true := by
      rw [List.length_map, List.length_take]
      rw [Nat.ble_eq]
      simp only [lim, List.length_cons, List.length_nil]; omega
    have ht : encN (fs.take (i + 1)) = encN (fs.take i) ++ [[AV.str fs[i].n]] := by
      rw [List.take_add_one, e1]; simp only [encN, List.map_append]; rfl
    rw [hg, guT, w64_succ (by omega), ← ih, ht]
theorem names_is (fs : List Fd) (hl : fs.length ≤ 1073741824) : ref09_names (.sl 2 (encF fs)) = some (.bool (risF Nam.rightV none fs)) := by
  rw [ref09_names.f_eq]
  exact names_loop fs hl fs.length 0 (by omega)
theorem ble_lt (a b : Bs) : (bytesLt b a || decide (b = a)) = !bytesLt a b := by
  cases h : bytesLt a b with
  | true =>
    have := blt_asym a b h
    rw [this]
    have : ¬ b = a := fun e => by subst e; rw [blt_irr] at h; cases h
    simp [this]
  | false =>
    cases h2 : bytesLt b a with
    | true => rfl
    | false => have := blt_total a b h h2; simp [this]
theorem risP_loop (fs : List Fd) (hl : fs.length ≤ 1073741824) : ∀ (d i : Nat), i + d = fs.length → lat_rising.l0 (.sl 2 (encF fs)) (.sl 2 (encF fs)) (.int .i64 (fs.length : Int)) (.int .i64 (i : Int)) = some (.bool (risF Nam.rightV (prevN fs i) (fs.drop i)))
  | 0, i, h => by
    rw [lat_rising.l0_eq, decide_eq_false (by omega), ifF, dropNil (by omega)]; rfl
  | d + 1, i, h => by
    have h1' : i < fs.length := by omega
    have e1 : fs[i]? = some fs[i] := List.getElem?_eq_getElem h1'
    have ih := risP_loop fs hl d (i + 1) (by omega)
    rw [prevN_succ e1] at ih
    rw [lat_rising.l0_eq, decide_eq_true (by omega), ifT, dropCons h1', risF_cons]
    simp only [idx_at (encFd_at e1), h0, asS_, nameR_is, someB, asB_]
    rw [w64_succ (by omega), ih]
    by_cases hi0 : i = 0
    · subst hi0
      rw [e00, decide_eq_false (by omega), ifF]
      simp only [orK, someB]
      cases Nam.rightV fs[0].n <;> simp [ifT, ifF, prevN, rises]
    · have e2 : fs[i - 1]? = some fs[i - 1] := List.getElem?_eq_getElem (by omega)
      rw [decide_eq_true (by omega), ifT, w64_pred (by omega) (by omega)]
      simp only [idx_at (encFd_at e2), h0, asS_, someB, orK, ble_lt]
      have : prevN fs i = some fs[i - 1].n := by unfold prevN; rw [if_neg hi0, e2]; rfl
      rw [this, rises]
      cases Nam.rightV fs[i].n <;> cases bytesLt fs[i - 1].n fs[i].n <;> simp [ifT, ifF]
theorem risP_is (fs : List Fd) (hl : fs.length ≤ 1073741824) : lat_rising (.sl 2 (encF fs)) = some (.bool (risF Nam.rightV none fs)) := by
  rw [lat_rising.f_eq, encF_len]
  exact risP_loop fs hl fs.length 0 (by omega)
abbrev Rn := Nam.rightV
/-- What a search comes to. -/
def Found (fs : List Fd) (s : Bs) (k : Int) : Prop := (k = -1 ∧ findF fs s = none) ∨ (∃ (j : Nat) (f : Fd), k = (j : Int) ∧ fs[j]? = some f ∧ f.n = s ∧ findF fs s = some f.v)
theorem findF_cons (f : Fd) (r : List Fd) (s : Bs) : findF (f :: r) s = if f.n = s then some f.v else findF r s := by cases f; rfl
theorem find_none : ∀ (fs : List Fd) (s : Bs), (∀ f ∈ fs, f.n ≠ s) → findF fs s = none
  | [], s, h => rfl
  | f :: r, s, h => by rw [findF_cons, if_neg (h f (List.mem_cons_self ..)), find_none r s fun g hg => h g (List.mem_cons_of_mem _ hg)]
theorem find9_loop (fs : List Fd) (s : Bs) (hl : fs.length ≤ 1073741824) (hall : findF fs s = findF fs s) : ∀ (d i : Nat), i + d = fs.length → findF (fs.drop i) s = findF fs s → ∃ k, ref09_Find.l0 (.sl 2 (encF fs)) (.str s) (.int .i64 (i : Int)) = some (.int .i64 k) ∧ Found fs s k
  | 0, i, h, hf => by
    refine ⟨-1, ?_, Or.inl ⟨rfl, ?_⟩⟩
    · rw [ref09_Find.l0_eq, encF_len, decide_eq_false (by omega), ifF]
    · rw [← hf, dropNil (by omega)]; rfl
  | d + 1, i, h, hf => by
    have h1' : i < fs.length := by omega
    have e1 : fs[i]? = some fs[i] := List.getElem?_eq_getElem h1'
    rw [dropCons h1', findF_cons] at hf
    rw [ref09_Find.l0_eq, encF_len, decide_eq_true (by omega), ifT]
    simp only [idx_at (encFd_at e1), h0, asS_]
    by_cases he : fs[i].n = s
    · rw [if_pos he] at hf
      exact ⟨i, by rw [decide_eq_true he, ifT], Or.inr ⟨i, _, rfl, e1, he, hf.symm⟩⟩
    · rw [if_neg he] at hf
      obtain ⟨k, hk, hF⟩ := find9_loop fs s hl hall d (i + 1) (by omega) hf
      exact ⟨k, by rw [decide_eq_false he, ifF, w64_succ (by omega), hk], hF⟩
theorem find9_is (fs : List Fd) (s : Bs) (hl : fs.length ≤ 1073741824) : ∃ k, ref09_Find (.sl 2 (encF fs)) (.str s) = some (.int .i64 k) ∧ Found fs s k := by
  rw [ref09_Find.f_eq]
  exact find9_loop fs s hl rfl fs.length 0 (by omega) rfl
/-! The search by halves -/
theorem ris_sorted (R : Bs → Bool) : ∀ (fs : List Fd) (p : Option Bs), risF R p fs = true → ∀ (i j : Nat) (f g : Fd), i < j → fs[i]? = some f → fs[j]? = some g → bytesLt f.n g.n = true
  | [], p, h, i, j, f, g, hij, hi, hj => by simp at hi
  | x :: r, p, h, i, j, f, g, hij, hi, hj => by
    have ht := ris_tail R h
    obtain ⟨j, rfl⟩ : ∃ j', j = j' + 1 := ⟨j - 1, by omega⟩
    rw [List.getElem?_cons_succ] at hj
    cases i with
    | zero =>
      rw [List.getElem?_cons_zero] at hi
      cases hi
      exact ris_lt R r _ ht g (List.mem_of_getElem? hj)
    | succ i =>
      rw [List.getElem?_cons_succ] at hi
      exact ris_sorted R r _ ht i j f g (by omega) hi hj
theorem mid_is (a b : Nat) (h : a + b ≤ 4294967296) : w64 (Int.fdiv (IntKind.wrap .u64 (w64 ((a : Int) + (b : Int)))) (2 ^ (min (1 : Int).toNat (IntKind.bits .u64)))) = (((a + b) / 2 : Nat) : Int) := by
  rw [w64_add (by omega)]
  have e1 : IntKind.wrap .u64 ((a + b : Nat) : Int) = ((a + b : Nat) : Int) := by
    simp [IntKind.wrap, IntKind.bits, IntKind.signed]; omega
  rw [e1]
  have e2 : (2 : Int) ^ (min (1 : Int).toNat (IntKind.bits .u64)) = 2 := by decide
  rw [e2, Int.fdiv_eq_ediv_of_nonneg _ (by omega), w64_id (by omega)]
  omega
theorem cmpF_is (f : Fd) (s : Bs) : ωκ S 262 ([AV.agg 2 (encFd f), AV.str s] ++ []) = some (.int .i64 (if bytesLt f.n s = true then -1 else if f.n = s then 0 else 1)) := by
  have : lat_find_1 (.agg 2 (encFd f)) (.str s) = some (.int .i64 (if bytesLt f.n s = true then -1 else if f.n = s then 0 else 1)) := by
    rw [lat_find_1.f_eq]
    simp only [h0, asS_]
    cases h : bytesLt f.n s with
    | true => simp [ifT]
    | false => by_cases he : f.n = s <;> simp [he, ifT, ifF]
  exact this
theorem bs_loop (fs : List Fd) (s : Bs) (p : Option Bs) (hr : risF Rn p fs = true) (hl : fs.length ≤ 1073741824) : ∀ (d lo hi : Nat), hi - lo ≤ d → lo ≤ hi → hi ≤ fs.length → (∀ j f, j < lo → fs[j]? = some f → bytesLt f.n s = true) → (∀ j f, hi ≤ j → fs[j]? = some f → bytesLt f.n s = false) →
    ∃ (k : Nat) (b : Bool), slices_BinarySearchFunc__Field.l0 (.sl 2 (encF fs)) (.str s) (.fn 262 []) (.int .i64 (fs.length : Int)) (.int .i64 (lo : Int)) (.int .i64 (hi : Int)) = some (.tup [.int .i64 (k : Int), .bool b]) ∧ (b = true → ∃ f, fs[k]? = some f ∧ f.n = s) ∧ (b = false → ∀ f ∈ fs, f.n ≠ s) := by
  intro d
  induction d with
  | zero =>
    intro lo hi hd hle hhi hA hB
    obtain rfl : lo = hi := by omega
    rw [slices_BinarySearchFunc__Field.l0_eq, decide_eq_false (by omega), ifF]
    by_cases hlt : lo < fs.length
    · have e1 : fs[lo]? = some fs[lo] := List.getElem?_eq_getElem hlt
      rw [decide_eq_true (by omega), ifT]
      simp only [idx_at (encFd_at e1), cmpF_is, someB, asI_]
      have hb := hB lo _ (Nat.le_refl _) e1
      refine ⟨lo, _, rfl, fun hb' => ?_, fun hb' f hf he => ?_⟩
      · rw [hb] at hb'
        by_cases he : fs[lo].n = s
        · exact ⟨_, e1, he⟩
        · simp [he] at hb'
      · obtain ⟨j, hj⟩ := List.getElem?_of_mem hf
        rcases Nat.lt_trichotomy j lo with hc | hc | hc
        · have := hA j f hc hj
          rw [he, blt_irr] at this; cases this
        · subst hc
          rw [e1] at hj; cases hj
          rw [hb] at hb'
          simp [he] at hb'
        · have h1 := ris_sorted Rn fs p hr lo j _ _ hc e1 hj
          rw [he, hb] at h1; cases h1
    · rw [decide_eq_false (by omega), ifF]
      refine ⟨lo, false, rfl, fun hb' => Bool.noConfusion hb', fun _ f hf he => ?_⟩
      obtain ⟨j, hj⟩ := List.getElem?_of_mem hf
      have hjl := (List.getElem?_eq_some_iff.1 hj).1
      have := hA j f (by omega) hj
      rw [he, blt_irr] at this; cases this
  | succ d ih =>
    intro lo hi hd hle hhi hA hB
    by_cases heq : lo = hi
    · exact ih lo hi (by omega) hle hhi hA hB
    rw [slices_BinarySearchFunc__Field.l0_eq, decide_eq_true (by omega), ifT, decide_eq_true (by omega), guT, mid_is lo hi (by omega)]
    have hm : (lo + hi) / 2 < fs.length := by omega
    generalize hq : (lo + hi) / 2 = m at hm ⊢
    have e1 : fs[m]? = some fs[m] := List.getElem?_eq_getElem hm
    simp only [idx_at (encFd_at e1), cmpF_is, someB, asI_]
    rw [w64_succ (by omega)]
    cases hb : bytesLt fs[m].n s with
    | true =>
      rw [if_pos rfl, decide_eq_true (by omega), ifT]
      refine ih (m + 1) hi (by omega) (by omega) hhi (fun j f hj hf => ?_) hB
      rcases Nat.lt_or_ge j m with hc | hc
      · exact blt_trans _ _ _ (ris_sorted Rn fs p hr j m _ _ hc hf e1) hb
      · obtain rfl : j = m := by omega
        rw [e1] at hf; cases hf; exact hb
    | false =>
      rw [if_neg (by simp)]
      have : decide ((if fs[m].n = s then (0 : Int) else 1) < 0) = false := by split <;> rfl
      rw [this, ifF]
      refine ih lo m (by omega) (by omega) (by omega) hA (fun j f hj hf => ?_)
      rcases Nat.lt_or_ge m j with hc | hc
      · have h1 := ris_sorted Rn fs p hr m j _ _ hc e1 hf
        cases h2 : bytesLt f.n s with
        | false => rfl
        | true => have := blt_trans _ _ _ h1 h2; rw [hb] at this; cases this
      · obtain rfl : j = m := by omega
        rw [e1] at hf; cases hf; exact hb
theorem findP_is (fs : List Fd) (s : Bs) (p : Option Bs) (hr : risF Rn p fs = true) (hl : fs.length ≤ 1073741824) : ∃ k, lat_find (.sl 2 (encF fs)) (.str s) = some (.int .i64 k) ∧ Found fs s k := by
  rw [lat_find.f_eq, slices_BinarySearchFunc__Field.f_eq, encF_len]
  obtain ⟨k, b, h, h1, h2⟩ := bs_loop fs s p hr hl fs.length 0 fs.length (by omega) (by omega) (Nat.le_refl _) (fun j f hj => by omega) (fun j f hj hf => by have := (List.getElem?_eq_some_iff.1 hf).1; omega)
  rw [e00] at h
  rw [h]
  simp only [someB, asT2_, asI_, asB_]
  cases b with
  | true =>
    obtain ⟨f, hf, he⟩ := h1 rfl
    refine ⟨k, rfl, Or.inr ⟨k, f, rfl, hf, he, ?_⟩⟩
    rw [← he]; exact find_mem Rn fs p hr f (List.mem_of_getElem? hf)
  | false => exact ⟨-1, rfl, Or.inl ⟨rfl, find_none fs s (h2 rfl)⟩⟩
/-! Whether some element holds -/
theorem ixF_loop (fs : List Fd) (g : Nat) (c : List AV) (q : Fd → Bool) (hl : fs.length ≤ 1073741824) (h : ∀ f ∈ fs, ωκ S g ([AV.agg 2 (encFd f)] ++ c) = some (.bool (q f))) : ∀ (d i : Nat), i + d = fs.length → ∃ k : Int, slices_IndexFunc__Field.l0 (.sl 2 (encF fs)) (.fn g c) (.int .i64 (fs.length : Int)) (.int .i64 (i : Int)) = some (.int .i64 k) ∧ decide (0 ≤ k) = (fs.drop i).any q
  | 0, i, hi => ⟨-1, by rw [slices_IndexFunc__Field.l0_eq, decide_eq_false (by omega), ifF], by rw [dropNil (by omega)]; rfl⟩
  | d + 1, i, hi => by
    have h1' : i < fs.length := by omega
    have e1 : fs[i]? = some fs[i] := List.getElem?_eq_getElem h1'
    rw [slices_IndexFunc__Field.l0_eq, decide_eq_true (by omega), ifT, idx_at (encFd_at e1), h _ (List.getElem_mem h1'), dropCons h1', List.any_cons]
    simp only [someB, asB_]
    cases q fs[i] with
    | true => exact ⟨i, rfl, by simp⟩
    | false => rw [ifF, w64_succ (by omega), Bool.false_or]; exact ixF_loop fs g c q hl h d (i + 1) (by omega)
theorem anyF_is (fs : List Fd) (g : Nat) (c : List AV) (q : Fd → Bool) (hl : fs.length ≤ 1073741824) (h : ∀ f ∈ fs, ωκ S g ([AV.agg 2 (encFd f)] ++ c) = some (.bool (q f))) : slices_ContainsFunc__Field (.sl 2 (encF fs)) (.fn g c) = some (.bool (fs.any q)) := by
  obtain ⟨k, hk, hq⟩ := ixF_loop fs g c q hl h fs.length 0 (by omega)
  rw [e00] at hk
  rw [slices_ContainsFunc__Field.f_eq, slices_IndexFunc__Field.f_eq, encF_len, hk]
  simp only [someB, asI_, hq, List.drop_zero]
theorem ixT_loop (v : List Tm) (g : Nat) (c : List AV) (q : Tm → Bool) (hl : v.length ≤ 1073741824) (h : ∀ t ∈ v, ωκ S g ([AV.agg 8 (encT t)] ++ c) = some (.bool (q t))) : ∀ (d i : Nat), i + d = v.length → ∃ k : Int, slices_IndexFunc__Term.l0 (.sl 8 (encV v)) (.fn g c) (.int .i64 (v.length : Int)) (.int .i64 (i : Int)) = some (.int .i64 k) ∧ decide (0 ≤ k) = (v.drop i).any q
  | 0, i, hi => ⟨-1, by rw [slices_IndexFunc__Term.l0_eq, decide_eq_false (by omega), ifF], by rw [dropNil (by omega)]; rfl⟩
  | d + 1, i, hi => by
    have h1' : i < v.length := by omega
    have e1 : v[i]? = some v[i] := List.getElem?_eq_getElem h1'
    rw [slices_IndexFunc__Term.l0_eq, decide_eq_true (by omega), ifT, idx_at (encT_at e1), h _ (List.getElem_mem h1'), dropCons h1', List.any_cons]
    simp only [someB, asB_]
    cases q v[i] with
    | true => exact ⟨i, rfl, by simp⟩
    | false => rw [ifF, w64_succ (by omega), Bool.false_or]; exact ixT_loop v g c q hl h d (i + 1) (by omega)
theorem anyT_is (v : List Tm) (g : Nat) (c : List AV) (q : Tm → Bool) (hl : v.length ≤ 1073741824) (h : ∀ t ∈ v, ωκ S g ([AV.agg 8 (encT t)] ++ c) = some (.bool (q t))) : slices_ContainsFunc__Term (.sl 8 (encV v)) (.fn g c) = some (.bool (v.any q)) := by
  obtain ⟨k, hk, hq⟩ := ixT_loop v g c q hl h v.length 0 (by omega)
  rw [e00] at hk
  rw [slices_ContainsFunc__Term.f_eq, slices_IndexFunc__Term.f_eq, encV_len, hk]
  simp only [someB, asI_, hq, List.drop_zero]
end Go.Proofs.YtmdimhcjogjcgaaGreatDoor.Lat
