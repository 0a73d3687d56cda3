/- Scalars: what the program and the document come to. -/
import Derived.Test.YtmdimhcjogjcgaaGreatDoorTA
import Derived.Test.YtmdimhcjogjcgaaGreatDoorEA
import Derived.Test.YtmdimhcjogjcgaaGreatDoorEB
import Derived.Test.YtmdimhcjogjcgaaGreatDoorEC
import Derived.Test.YtmdimhcjogjcgaaGreatDoorED
set_option linter.unusedVariables false
set_option linter.unusedSimpArgs false
set_option linter.unusedSectionVars false
set_option linter.deprecated false
set_option linter.unnecessarySimpa false
namespace Go.Proofs.YtmdimhcjogjcgaaGreatDoor.Lat
open Go.Proofs.YtmdimhcjogjcgaaGreatDoor.Abs
section
variable {α : Type}
theorem getC0 (a : AV) (c : List AV) (k : AV → Option α) : getC (a :: c) 0 k = k a := rfl
theorem getC1 (a : AV) (c : List AV) (n : Nat) (k : AV → Option α) : getC (a :: c) (n + 1) k = getC c n k := rfl
theorem asI_ (n : Int) (k : Int → Option α) : asI .i64 (.int .i64 n) k = k n := rfl
theorem asB_ (b : Bool) (k : Bool → Option α) : asB (.bool b) k = k b := rfl
theorem asS_ (s : List UInt8) (k : List UInt8 → Option α) : asS (.str s) k = k s := rfl
theorem asL8 (l : List (List AV)) (k : List (List AV) → Option α) : asL 8 (.sl 8 l) k = k l := rfl
theorem asL2 (l : List (List AV)) (k : List (List AV) → Option α) : asL 2 (.sl 2 l) k = k l := rfl
theorem ifT (x y : Option α) : ifB true x y = x := rfl
theorem ifF (x y : Option α) : ifB false x y = y := rfl
theorem andK (b c : Bool) : ifB b (some c) (some false) = some (b && c) := by cases b <;> rfl
theorem orK (b c : Bool) : ifB b (some true) (some c) = some (b || c) := by cases b <;> rfl
theorem selK (b x y : Bool) : ifB b (some (AV.bool x)) (some (AV.bool y)) = some (AV.bool (if b = true then x else y)) := by cases b <;> rfl
theorem guT (x : Option α) : guardK true x = x := rfl
theorem someB {β : Type} (x : β) (f : β → Option α) : (some x).bind f = f x := rfl
theorem idx_at {β : Type} {l : List β} {j : Nat} {x : β} (h : l[j]? = some x) (k : β → Option α) : idx l (j : Int) k = k x := by
  unfold idx
  rw [Int.toNat_natCast, h]
  have : decide ((0 : Int) ≤ (j : Int)) = true := by simp
  rw [this]; rfl
end
theorem w64_id {n : Int} (h : -9223372036854775808 ≤ n ∧ n ≤ 9223372036854775807) : w64 n = n := by
  show IntKind.wrap .i64 n = n
  simp [IntKind.wrap, IntKind.bits, IntKind.signed]
  omega
theorem w64_succ {n : Nat} (h : n < 9223372036854775807) : w64 ((n : Int) + 1) = ((n + 1 : Nat) : Int) := by rw [w64_id (by omega)]; omega
theorem encF_len (fs : List Fd) : (encF fs).length = fs.length := by rw [encF_map, List.length_map]
theorem encV_len (v : List Tm) : (encV v).length = v.length := by rw [encV_map, List.length_map]
theorem bare_is (t : Tm) : scalar_bare (.agg 8 (encT t)) = some (.bool (!t.o && t.fs.isEmpty)) := by
  obtain ⟨k, lo, hi, s, a, m, o, fs⟩ := t
  simp only [scalar_bare.f_eq, encT, getC0, getC1, asB_, asL2, encF_len]
  cases o <;> simp only [Bool.not_true, Bool.not_false, ifT, ifF, someB, Tm.o, Tm.fs, Bool.false_and, Bool.true_and]
  congr 2
  cases fs <;> simp
  omega
theorem one_is (t : Tm) : scalar_one (.agg 8 (encT t)) = some (.bool (single t)) := by
  obtain ⟨k, lo, hi, s, a, m, o, fs⟩ := t
  simp only [scalar_one.f_eq, encT, getC0, getC1, asB_, asI_, single]
  by_cases h : k = 3 <;> simp [h, ifT, ifF]
theorem scalR_is (t : Tm) : scalar_Right (.agg 8 (encT t)) = some (.bool (scal t)) := by
  have hb := bare_is t
  have ho := one_is t
  obtain ⟨k, lo, hi, s, a, m, o, fs⟩ := t
  simp only [encT] at hb ho
  simp only [scalar_Right.f_eq, scalar_Right.j0_eq, encT, getC0, getC1, asB_, asI_, asS_, hb, ho, someB, Tm.o, Tm.fs, scal, andK, orK, selK]
  congr 2
  generalize single (.mk k lo hi s a m o fs) = g
  cases o <;> cases m <;> cases g <;> cases a <;> cases hf : fs.isEmpty <;> simp
  all_goals (by_cases k3 : k = 3 <;> by_cases k2 : k = 2 <;> by_cases k1 : k = 1 <;> simp [k3, k2, k1] <;> first | omega | skip)
  all_goals (rw [Bool.eq_iff_iff]; simp only [Bool.and_eq_true, decide_eq_true_eq, and_assoc]; try omega)
/-- The document's scalars. -/
theorem single7_is (t : Tm) : ref07_Single (.agg 8 (encT t)) = some (.bool (single t)) := by
  obtain ⟨k, lo, hi, s, a, m, o, fs⟩ := t
  simp only [ref07_Single.f_eq, encT, getC0, getC1, asB_, asI_, single]
  by_cases h : k = 3 <;> simp [h, ifT, ifF]
theorem scal7_is (t : Tm) : ref07_Right (.agg 8 (encT t)) = some (.bool (scal t)) := by
  have ho := single7_is t
  obtain ⟨k, lo, hi, s, a, m, o, fs⟩ := t
  simp only [encT] at ho
  simp only [ref07_Right.f_eq, encT, getC0, getC1, asB_, asI_, asS_, asL2, encF_len, ho, someB, scal, andK, orK, selK]
  congr 2
  generalize single (.mk k lo hi s a m o fs) = g
  cases o <;> cases m <;> cases g <;> cases a <;> cases fs <;> simp
  all_goals (by_cases k3 : k = 3 <;> by_cases k1 : k = 1 <;> by_cases k2 : k = 2 <;> by_cases hs : s = [] <;> simp [k3, k1, k2, hs])
  all_goals (rw [Bool.eq_iff_iff]; simp only [Bool.and_eq_true, decide_eq_true_eq, Bool.not_eq_true', decide_eq_false_iff_not]; omega)
theorem scal_facts {t : Tm} (h : scal t = true) : t.o = false ∧ t.fs = [] ∧ (t.k = 3 → t.lo = 0 ∧ t.hi = 0 ∧ (t.a = true → t.s = [])) ∧ (t.k ≠ 3 → t.s = [] ∧ t.a = false) ∧ (t.m = true → single t = false) ∧ (t.k = 1 ∨ t.k = 2 ∨ t.k = 3) := by
  obtain ⟨k, lo, hi, s, a, m, o, fs⟩ := t
  rw [scal] at h
  by_cases hn : (o || !fs.isEmpty || (m && single (.mk k lo hi s a m o fs))) = true
  · rw [if_pos hn] at h; cases h
  · rw [if_neg hn] at h
    simp only [Bool.or_eq_true, not_or, Bool.not_eq_true, Bool.not_eq_false', List.isEmpty_iff, Bool.and_eq_false_iff] at hn
    obtain ⟨⟨rfl, rfl⟩, hm⟩ := hn
    refine ⟨rfl, rfl, fun h3 => ?_, fun h3 => ?_, fun h3 => ?_, ?_⟩
    · have h3 : k = 3 := h3
      rw [if_pos h3] at h
      simp only [Bool.and_eq_true, decide_eq_true_eq] at h
      refine ⟨h.1.1, h.1.2, fun ha => ?_⟩
      have ha : a = true := ha
      rw [ha, if_pos rfl] at h
      have : s = [] := by simpa using h.2
      exact this
    · have h3 : ¬ k = 3 := h3
      rw [if_neg h3] at h
      split at h
      · simp at h; exact ⟨h.1.2.2.2, h.2⟩
      · split at h
        · simp at h; exact ⟨h.1.2.2.2, h.2⟩
        · cases h
    · have h3 : m = true := h3
      rcases hm with hm | hm
      · rw [h3] at hm; cases hm
      · exact hm
    · show k = 1 ∨ k = 2 ∨ k = 3
      split at h
      · exact .inr (.inr ‹_›)
      · split at h
        · exact .inl ‹_›
        · split at h
          · exact .inr (.inl ‹_›)
          · cases h
def noneT : AV := .tup [.agg 8 (encT (.mk 0 0 0 [] false false false [])), .bool false]
def meetA (a b : Tm) : AV := match meetS a b with
  | some m => .tup [.agg 8 (encT m), .bool true]
  | none => noneT
theorem meetA_no {a b : Tm} (h : (scal a && scal b && decide (a.k = b.k)) = false) : meetA a b = noneT := by
  obtain ⟨k, lo, hi, s, x, m, o, fs⟩ := a
  obtain ⟨k', lo', hi', s', x', m', o', fs'⟩ := b
  unfold meetA
  rw [meetS, if_neg (by rw [show (scal (.mk k lo hi s x m o fs) && scal (.mk k' lo' hi' s' x' m' o' fs') && decide (k = k')) = false from h]; decide)]
theorem meetA_of {k lo hi lo' hi' : Int} {s s' : Bs} {x m o x' m' o' : Bool} {fs fs' : List Fd} (h1 : scal (.mk k lo hi s x m o fs) = true) (h2 : scal (.mk k lo' hi' s' x' m' o' fs') = true) :
    meetA (.mk k lo hi s x m o fs) (.mk k lo' hi' s' x' m' o' fs') = if min hi hi' < max lo lo' then noneT else if (x || x' || decide (s = s')) = true then
      .tup [.agg 8 (encT (.mk k (max lo lo') (min hi hi') (bif x then s' else s) (x && x') ((m || m') && !single (.mk k (max lo lo') (min hi hi') (bif x then s' else s) (x && x') false false [])) false [])), .bool true] else noneT := by
  unfold meetA
  rw [meetS, if_pos (by rw [h1, h2]; simp)]
  split
  · rename_i h; split at h
    · cases h
    · rename_i hlt
      rw [if_neg hlt]
      split at h
      · rename_i hx
        cases h; rw [if_pos hx]
      · cases h
  · rename_i h; split at h
    · rename_i hlt; rw [if_pos hlt]
    · rename_i hlt
      rw [if_neg hlt]
      split at h
      · cases h
      · rename_i hx; rw [if_neg hx]
theorem meetP_is (a b : Tm) : scalar_Meet (.agg 8 (encT a)) (.agg 8 (encT b)) = some (meetA a b) := by
  have h1 := scalR_is a
  have h2 := scalR_is b
  have hno := @meetA_no a b
  obtain ⟨k, lo, hi, s, x, m, o, fs⟩ := a
  obtain ⟨k', lo', hi', s', x', m', o', fs'⟩ := b
  simp only [encT] at h1 h2
  simp only [scalar_Meet.f_eq, encT, getC0, getC1, asB_, asI_, asS_, h1, h2, someB, andK, orK]
  simp only [Tm.k] at hno
  cases e1 : scal (.mk k lo hi s x m o fs) with
  | false => rw [hno (by rw [e1]; rfl)]; rfl
  | true =>
  cases e2 : scal (.mk k' lo' hi' s' x' m' o' fs') with
  | false => rw [hno (by rw [e1, e2]; rfl)]; rfl
  | true =>
  by_cases hk : k = k'
  · subst hk
    rw [meetA_of e1 e2]
    have hj : ∀ t : Bs, scalar_Meet.j0 (AV.boxv 8 [AV.int .i64 k, AV.int .i64 lo, AV.int .i64 hi, AV.str s, AV.bool x, AV.bool m, AV.bool o, AV.sl 2 (encF fs)] []) (AV.boxv 8 [AV.int .i64 k, AV.int .i64 lo', AV.int .i64 hi', AV.str s', AV.bool x', AV.bool m', AV.bool o', AV.sl 2 (encF fs')] [])
        (AV.boxv 8 [AV.int .i64 0, AV.int .i64 0, AV.int .i64 0, AV.str [], AV.bool false, AV.bool false, AV.bool false, AV.sl 2 []] [(7, AV.own 2 [])]) (AV.boxv 8 [AV.int .i64 k, AV.int .i64 (max lo lo'), AV.int .i64 (min hi hi'), AV.str t, AV.bool (x && x'), AV.bool false, AV.bool false, AV.sl 2 []] [(7, AV.own 2 [])]) =
        some (.tup [.agg 8 (encT (.mk k (max lo lo') (min hi hi') t (x && x') ((m || m') && !single (.mk k (max lo lo') (min hi hi') t (x && x') false false [])) false [])), .bool true]) := fun t => by
      have ho := one_is (.mk k (max lo lo') (min hi hi') t (x && x') false false [])
      simp only [encT, encF] at ho
      simp only [scalar_Meet.j0_eq, getC0, getC1, asB_, orK, someB, ho, andK, encT, encF]
    simp only [Bool.not_true, Bool.or_self, decide_true, ifF]
    by_cases hlt : min hi hi' < max lo lo'
    · simp only [hlt, decide_true, ifT, if_true]; rfl
    · simp only [hlt, decide_false, ifF, if_false]
      cases x with
      | true => rw [ifT, hj]; rfl
      | false =>
        rw [ifF]
        cases hq : (x' || decide (s = s')) with
        | true => rw [ifT, hj, if_pos (by simpa using hq)]; rfl
        | false => rw [ifF, if_neg (by rw [Bool.false_or, hq]; decide)]; rfl
  · rw [hno (by rw [e1, e2]; simp [hk])]
    simp only [hk, decide_false, Bool.not_true, Bool.not_false, Bool.or_true, ifT]
    rfl
theorem meet7_is (a b : Tm) : ref07_Meet (.agg 8 (encT a)) (.agg 8 (encT b)) = some (meetA a b) := by
  have h1 := scal7_is a
  have h2 := scal7_is b
  have hno := @meetA_no a b
  have f1 := @scal_facts a
  have f2 := @scal_facts b
  obtain ⟨k, lo, hi, s, x, m, o, fs⟩ := a
  obtain ⟨k', lo', hi', s', x', m', o', fs'⟩ := b
  simp only [encT] at h1 h2
  simp only [ref07_Meet.f_eq, encT, getC0, getC1, asB_, asI_, asS_, h1, h2, someB, andK, orK]
  simp only [Tm.k, Tm.o, Tm.fs, Tm.lo, Tm.hi, Tm.a, Tm.s, Tm.m] at hno f1 f2
  cases e1 : scal (.mk k lo hi s x m o fs) with
  | false => rw [hno (by rw [e1]; rfl)]; rfl
  | true =>
  cases e2 : scal (.mk k' lo' hi' s' x' m' o' fs') with
  | false => rw [hno (by rw [e1, e2]; rfl)]; rfl
  | true =>
  by_cases hk : k = k'
  · subst hk
    obtain ⟨rfl, rfl, g3, g4, _, _⟩ := f1 e1
    obtain ⟨rfl, rfl, g3', g4', _, _⟩ := f2 e2
    rw [meetA_of e1 e2]
    have hj2 : ∀ (t : Bs) (y : Bool) (L H : Int), L = max lo lo' → H = min hi hi' → ref07_Meet.j2 (AV.boxv 8 [AV.int .i64 k, AV.int .i64 lo, AV.int .i64 hi, AV.str s, AV.bool x, AV.bool m, AV.bool false, AV.sl 2 (encF [])] []) (AV.boxv 8 [AV.int .i64 k, AV.int .i64 lo', AV.int .i64 hi', AV.str s', AV.bool x', AV.bool m', AV.bool false, AV.sl 2 (encF [])] [])
        (AV.boxv 8 [AV.int .i64 0, AV.int .i64 0, AV.int .i64 0, AV.str [], AV.bool false, AV.bool false, AV.bool false, AV.sl 2 []] [(7, AV.own 2 [])]) (AV.boxv 8 [AV.int .i64 k, AV.int .i64 L, AV.int .i64 H, AV.str t, AV.bool y, AV.bool false, AV.bool false, AV.sl 2 (encF [])] []) =
        some (if min hi hi' < max lo lo' then noneT else .tup [.agg 8 (encT (.mk k (max lo lo') (min hi hi') t y ((m || m') && !single (.mk k (max lo lo') (min hi hi') t y false false [])) false [])), .bool true]) := fun t y L H hL hH => by
      subst hL hH
      have ho := single7_is (.mk k (max lo lo') (min hi hi') t y false false [])
      simp only [encT] at ho
      simp only [ref07_Meet.j2_eq, getC0, getC1, asB_, asI_, orK, someB, ho, andK, encT]
      by_cases hlt : min hi hi' < max lo lo'
      · simp only [hlt, decide_true, ifT, if_true]; rfl
      · simp only [hlt, decide_false, ifF, if_false]
        cases single (.mk k (max lo lo') (min hi hi') t y false false []) <;> cases m <;> cases m' <;> rfl
    have hj : ∀ (t : Bs) (y : Bool), ref07_Meet.j0 (AV.boxv 8 [AV.int .i64 k, AV.int .i64 lo, AV.int .i64 hi, AV.str s, AV.bool x, AV.bool m, AV.bool false, AV.sl 2 (encF [])] []) (AV.boxv 8 [AV.int .i64 k, AV.int .i64 lo', AV.int .i64 hi', AV.str s', AV.bool x', AV.bool m', AV.bool false, AV.sl 2 (encF [])] [])
        (AV.boxv 8 [AV.int .i64 0, AV.int .i64 0, AV.int .i64 0, AV.str [], AV.bool false, AV.bool false, AV.bool false, AV.sl 2 []] [(7, AV.own 2 [])]) (AV.boxv 8 [AV.int .i64 k, AV.int .i64 lo, AV.int .i64 hi, AV.str t, AV.bool y, AV.bool false, AV.bool false, AV.sl 2 (encF [])] []) =
        some (if min hi hi' < max lo lo' then noneT else .tup [.agg 8 (encT (.mk k (max lo lo') (min hi hi') t y ((m || m') && !single (.mk k (max lo lo') (min hi hi') t y false false [])) false [])), .bool true]) := fun t y => by
      simp only [ref07_Meet.j0_eq, ref07_Meet.j1_eq, getC0, getC1, asB_, asI_, List.set_cons_succ, List.set_cons_zero]
      by_cases c1 : lo < lo' <;> by_cases c2 : hi' < hi <;> simp only [c1, c2, decide_true, decide_false, ifT, ifF]
      · exact hj2 t y _ _ (by omega) (by omega)
      · exact hj2 t y _ _ (by omega) (by omega)
      · exact hj2 t y _ _ (by omega) (by omega)
      · exact hj2 t y _ _ (by omega) (by omega)
    simp only [Bool.not_true, Bool.or_self, decide_true, ifF, List.set_cons_succ, List.set_cons_zero]
    by_cases k3 : k = 3
    · obtain ⟨rfl, rfl, _⟩ := g3 k3
      obtain ⟨rfl, rfl, _⟩ := g3' k3
      subst k3
      simp only [decide_true, ifT]
      by_cases hs : s = s'
      · subst hs
        cases x <;> cases x' <;> simp [hj, ifT, ifF]
      · cases x <;> cases x' <;> simp [hj, ifT, ifF, hs]
        all_goals rfl
    · obtain ⟨rfl, rfl⟩ := g4 k3
      obtain ⟨rfl, rfl⟩ := g4' k3
      simp only [k3, decide_false, ifF, hj]
      simp
  · rw [hno (by rw [e1, e2]; simp [hk])]
    simp only [hk, decide_false, Bool.not_true, Bool.not_false, Bool.or_true, ifT]
    rfl
theorem sameP_is (a b : Tm) : scalar_Same (.agg 8 (encT a)) (.agg 8 (encT b)) = some (.bool (sameS a b)) := by
  have h1 := scalR_is a
  have h2 := scalR_is b
  obtain ⟨k, lo, hi, s, x, m, o, fs⟩ := a
  obtain ⟨k', lo', hi', s', x', m', o', fs'⟩ := b
  simp only [encT] at h1 h2
  simp only [scalar_Same.f_eq, encT, getC0, getC1, asB_, asI_, asS_, h1, h2, someB, andK, sameS]
  congr 2
  rw [Bool.eq_iff_iff]
  simp only [Bool.and_eq_true, decide_eq_true_eq, and_assoc]
theorem same7_is (a b : Tm) : ref07_Same (.agg 8 (encT a)) (.agg 8 (encT b)) = some (.bool (sameS a b)) := by
  have h1 := scal7_is a
  have h2 := scal7_is b
  obtain ⟨k, lo, hi, s, x, m, o, fs⟩ := a
  obtain ⟨k', lo', hi', s', x', m', o', fs'⟩ := b
  simp only [encT] at h1 h2
  simp only [ref07_Same.f_eq, encT, getC0, getC1, asB_, asI_, asS_, h1, h2, someB, andK, orK, selK, sameS]
  congr 2
  cases scal (.mk k lo hi s x m o fs) <;> cases scal (.mk k' lo' hi' s' x' m' o' fs') <;> simp
  rw [Bool.eq_iff_iff]
  simp only [Bool.and_eq_true, decide_eq_true_eq, and_assoc]
theorem meetA_cases (a b : Tm) : (∃ m, meetS a b = some m ∧ meetA a b = .tup [.agg 8 (encT m), .bool true]) ∨ (meetS a b = none ∧ meetA a b = noneT) := by
  unfold meetA
  cases meetS a b with
  | none => exact .inr ⟨rfl, rfl⟩
  | some m => exact .inl ⟨m, rfl, rfl⟩
theorem asC8 {α : Type} (c : List AV) (k : List AV → Option α) : asC 8 (.agg 8 c) k = k c := rfl
theorem asT2_ {α : Type} (a b : AV) (k : AV → AV → Option α) : asT2 (.tup [a, b]) k = k a b := rfl
theorem belowP_is (a b : Tm) : scalar_Below (.agg 8 (encT a)) (.agg 8 (encT b)) = some (.bool (belowS a b)) := by
  rw [scalar_Below.f_eq, meetP_is, someB]
  unfold belowS
  rcases meetA_cases a b with ⟨m, h1, h2⟩ | ⟨h1, h2⟩
  · rw [h1, h2]
    simp only [asT2_, asC8, asB_, ifT, sameP_is, someB]
  · rw [h1, h2]; rfl
theorem below7_is (a b : Tm) : ref07_Below (.agg 8 (encT a)) (.agg 8 (encT b)) = some (.bool (belowS a b)) := by
  rw [ref07_Below.f_eq, meet7_is, someB]
  unfold belowS
  rcases meetA_cases a b with ⟨m, h1, h2⟩ | ⟨h1, h2⟩
  · rw [h1, h2]
    simp only [asT2_, asC8, asB_, ifT, same7_is, someB]
  · rw [h1, h2]; rfl
theorem dropNil {β : Type} {l : List β} {i : Nat} (h : l.length ≤ i) : l.drop i = [] := List.drop_eq_nil_of_le h
theorem dropCons {β : Type} {l : List β} {i : Nat} (h : i < l.length) : l.drop i = l[i] :: l.drop (i + 1) := List.drop_eq_getElem_cons h
theorem oracle_is {f : Nat} {g : List AV → Option AV} (h : OO f = some g) (l : List AV) : ωκ S f l = g l := by rw [ωκ_eq]; exact ω_O S f l g h
theorem cmpI_is (a b : Int) : cmp_Compare__int (.int .i64 a) (.int .i64 b) = some (.int .i64 (cmpI a b)) := by
  have e : ∀ n : Int, cmp_isNaN__int (.int .i64 n) = some (.bool false) := fun n => by rw [cmp_isNaN__int.f_eq]; simp
  rw [cmp_Compare__int.f_eq, e, e]
  simp only [someB, asB_, ifF, cmpI]
  by_cases h : a < b
  · simp [h, ifT]
  · by_cases h2 : b < a <;> simp [h, h2, ifF, ifT]
theorem nums_is (a b : Int) : ref08_nums (.int .i64 a) (.int .i64 b) = some (.int .i64 (cmpI a b)) := by
  rw [ref08_nums.f_eq]
  unfold cmpI
  by_cases h : a < b
  · simp [h, ifT]
  · by_cases h2 : b < a <;> simp [h, h2, ifF, ifT]
theorem compareB : ∀ a b : Bs, Lib.compareBytes a b = cmpS a b
  | [], [] => rfl
  | [], _ :: _ => rfl
  | _ :: _, [] => rfl
  | x :: a, y :: b => by
    rw [Lib.compareBytes, compareB a b]
    unfold cmpS
    simp only [bytesLt]
    by_cases h : x < y
    · simp [h]
    · by_cases h2 : y < x
      · have hne : ¬ x = y := fun e => by subst e; exact absurd h2 (UInt8.lt_irrefl _)
        simp [h, h2, hne]
      · have : x = y := UInt8.toNat_inj.1 (by rw [u8_lt] at h h2; omega)
        subst this
        simp [h]
theorem cmpS_is (a b : Bs) : strings_Compare (.str a) (.str b) = some (.int .i64 (cmpS a b)) := by
  rw [strings_Compare.f_eq, internal_bytealg_CompareString.f_eq]
  have : internal_bytealg_abigen_runtime_cmpstring (.str a) (.str b) = some (.int .i64 (cmpS a b)) := by
    rw [← compareB]
    exact oracle_is (f := 286) rfl _
  rw [this]; rfl
theorem texts_is (a b : Bs) : ref08_texts (.str a) (.str b) = some (.int .i64 (cmpS a b)) := by
  rw [ref08_texts.f_eq]
  unfold cmpS
  cases h : bytesLt a b with
  | true => rfl
  | false =>
    rw [ifF]
    cases h2 : bytesLt b a with
    | true =>
      have : ¬ a = b := fun e => by subst e; rw [blt_irr] at h2; cases h2
      simp [this, ifT]
    | false =>
      have := blt_total a b h h2
      subst this
      simp [ifF]
theorem flag_is (b : Bool) : rank_flag (.bool b) = some (.int .i64 (flag b)) := by rw [rank_flag.f_eq]; cases b <;> rfl
theorem bools_is (a b : Bool) : ref08_bools (.bool a) (.bool b) = some (.int .i64 (flag a - flag b)) := by rw [ref08_bools.f_eq]; cases a <;> cases b <;> rfl
theorem flag_w (a b : Bool) : w64 (flag a - flag b) = flag a - flag b := by cases a <;> cases b <;> rfl
def firstL : List Int → Int
  | [] => 0
  | n :: r => fst0 n (firstL r)
theorem first_loop (l : List Int) (hl : l.length ≤ 1073741824) : ∀ (d i : Nat), i + d = l.length → rank_first.l0 (.sl 1 (l.map fun n => [.int .i64 n])) (.int .i64 (l.length : Int)) (.int .i64 (i : Int)) = some (.int .i64 (firstL (l.drop i)))
  | 0, i, h => by
    rw [rank_first.l0_eq, List.drop_eq_nil_of_le (by omega)]
    simp [show ¬ (i : Int) < (l.length : Int) by omega, ifF, firstL]
  | d + 1, i, h => by
    have hi : i < l.length := by omega
    have hd : l.drop i = l[i] :: l.drop (i + 1) := List.drop_eq_getElem_cons hi
    rw [rank_first.l0_eq, hd, decide_eq_true (by omega), ifT, idx_at (x := [.int .i64 l[i]]) (by simp [hi])]
    simp only [getC0, asI_]
    rw [w64_succ (by omega), first_loop l hl d (i + 1) (by omega), firstL]
    unfold fst0
    by_cases h0 : l[i] = 0 <;> simp [h0, ifT, ifF]
theorem first_is (l : List Int) (hl : l.length ≤ 1073741824) : rank_first (.sl 1 (l.map fun n => [.int .i64 n])) = some (.int .i64 (firstL l)) := by
  rw [rank_first.f_eq]
  have := first_loop l hl l.length 0 (by omega)
  rw [List.drop_zero] at this
  rw [List.length_map]; exact this
theorem fst0_0 (n : Int) : fst0 n 0 = n := by unfold fst0; split <;> omega
theorem fst0_assoc (a b c : Int) : fst0 (fst0 a b) c = fst0 a (fst0 b c) := by unfold fst0; split <;> (try split) <;> simp_all
theorem encFd_at {fs : List Fd} {i : Nat} {f : Fd} (h : fs[i]? = some f) : (encF fs)[i]? = some (encFd f) := by rw [encF_map, List.getElem?_map, h]; rfl
theorem encT_at {v : List Tm} {i : Nat} {t : Tm} (h : v[i]? = some t) : (encV v)[i]? = some (encT t) := by rw [encV_map, List.getElem?_map, h]; rfl
theorem szFd_get {fs : List Fd} {i : Nat} {f : Fd} (h : fs[i]? = some f) : 1 + szV f.v ≤ szF fs := by
  induction fs generalizing i with
  | nil => simp at h
  | cons g r ih =>
    obtain ⟨n, v⟩ := g
    rw [szF]
    cases i with
    | zero => simp at h; subst h; simp [Fd.v] <;> omega
    | succ i => have := ih (i := i) (by simpa using h); omega
theorem szT_get {v : List Tm} {i : Nat} {t : Tm} (h : v[i]? = some t) : szT t ≤ szV v := by
  induction v generalizing i with
  | nil => simp at h
  | cons g r ih =>
    rw [szV]
    cases i with
    | zero => simp at h; subst h; omega
    | succ i => have := ih (i := i) (by simpa using h); omega
theorem szT_fs (t : Tm) : szT t = 1 + szF t.fs := by cases t; rfl
/-! The program -/
theorem fields_is {f g : Fd} (h : rank_Compare (.agg 1 [.sl 8 (encV f.v)]) (.agg 1 [.sl 8 (encV g.v)]) = some (.int .i64 (cmpV f.v g.v))) : rank_fields (.agg 2 (encFd f)) (.agg 2 (encFd g)) = some (.int .i64 (fst0 (cmpS f.n g.n) (cmpV f.v g.v))) := by
  obtain ⟨n, v⟩ := f
  obtain ⟨m, u⟩ := g
  simp only [Fd.n, Fd.v] at h ⊢
  rw [rank_fields.f_eq]
  simp only [encFd, getC0, getC1, asS_, cmpS_is, someB, asI_, frz, h]
  have := first_is [cmpS n m, cmpV v u] (by simp)
  simp only [List.map_cons, List.map_nil] at this
  rw [this]
  simp only [someB, asI_, firstL, fst0_0]
theorem listsF_loop (a b : List Fd) (ha : a.length ≤ 1073741824) (h : ∀ f ∈ a, ∀ g ∈ b, rank_Compare (.agg 1 [.sl 8 (encV f.v)]) (.agg 1 [.sl 8 (encV g.v)]) = some (.int .i64 (cmpV f.v g.v))) :
    ∀ (d i : Nat), i + d = min a.length b.length → rank_lists__Field.l0 (.sl 2 (encF a)) (.sl 2 (encF b)) (.fn 216 []) (.int .i64 ((min a.length b.length : Nat) : Int)) (.int .i64 (i : Int)) = some (.int .i64 (cmpF (a.drop i) (b.drop i)))
  | 0, i, hi => by
    rw [rank_lists__Field.l0_eq, decide_eq_false (by omega), ifF, cmpI_is]
    simp only [someB, asI_, encF_len]
    congr 2
    unfold cmpI
    rcases Nat.lt_trichotomy a.length b.length with hc | hc | hc
    · rw [dropNil (l := a) (by omega), dropCons (l := b) (i := i) (by omega), cmpF, if_pos (by omega)]
    · rw [dropNil (l := a) (by omega), dropNil (l := b) (by omega), cmpF, if_neg (by omega), if_neg (by omega)]
    · rw [dropNil (l := b) (by omega), dropCons (l := a) (i := i) (by omega), cmpF, if_neg (by omega), if_pos (by omega)]
  | d + 1, i, hi => by
    have h1 : i < a.length := by omega
    have h2 : i < b.length := by omega
    have e1 : a[i]? = some a[i] := List.getElem?_eq_getElem h1
    have e2 : b[i]? = some b[i] := List.getElem?_eq_getElem h2
    rw [rank_lists__Field.l0_eq, decide_eq_true (by omega), ifT, idx_at (encFd_at e1), idx_at (encFd_at e2)]
    have hf : ωκ S 216 ([AV.agg 2 (encFd a[i]), AV.agg 2 (encFd b[i])] ++ []) = _ := fields_is (h a[i] (List.getElem_mem h1) b[i] (List.getElem_mem h2))
    rw [hf, w64_succ (by omega), listsF_loop a b ha h d (i + 1) (by omega), dropCons (l := a) h1, dropCons (l := b) h2]
    generalize a[i] = f
    generalize b[i] = g
    obtain ⟨n, v⟩ := f
    obtain ⟨m, u⟩ := g
    rw [cmpF]
    simp only [Fd.n, Fd.v, someB, asI_]
    generalize fst0 (cmpS n m) (cmpV v u) = x
    unfold fst0
    by_cases h0 : x = 0 <;> simp [h0, ifT, ifF]
theorem terms_is {t u : Tm} (ha : t.fs.length ≤ 1073741824) (h : ∀ f ∈ t.fs, ∀ g ∈ u.fs, rank_Compare (.agg 1 [.sl 8 (encV f.v)]) (.agg 1 [.sl 8 (encV g.v)]) = some (.int .i64 (cmpV f.v g.v))) : rank_Terms (.agg 8 (encT t)) (.agg 8 (encT u)) = some (.int .i64 (cmpT t u)) := by
  have hl := listsF_loop t.fs u.fs ha h (min t.fs.length u.fs.length) 0 (by omega)
  obtain ⟨k, lo, hi, s, a, m, o, fs⟩ := t
  obtain ⟨k', lo', hi', s', a', m', o', fs'⟩ := u
  simp only [Tm.fs, List.drop_zero] at hl
  have hl' : rank_lists__Field (.sl 2 (encF fs)) (.sl 2 (encF fs')) (.fn 216 []) = some (.int .i64 (cmpF fs fs')) := by
    rw [rank_lists__Field.f_eq, encF_len, encF_len, ← hl]
    congr 2
    omega
  rw [rank_Terms.f_eq]
  simp only [encT, getC0, getC1, asI_, asS_, asB_, asL2, cmpI_is, cmpS_is, flag_is, someB, hl', flag_w]
  have := first_is [cmpI k k', cmpI lo lo', cmpI hi hi', cmpS s s', flag a - flag a', flag m - flag m', flag o - flag o', cmpF fs fs'] (by simp)
  simp only [List.map_cons, List.map_nil] at this
  rw [this]
  simp only [someB, asI_, firstL, fst0_0, cmpT, Tm.k, Tm.lo, Tm.hi, Tm.s, Tm.a, Tm.m, Tm.o, Tm.fs]
theorem listsT_loop (a b : List Tm) (ha : a.length ≤ 1073741824) (h : ∀ t ∈ a, ∀ u ∈ b, rank_Terms (.agg 8 (encT t)) (.agg 8 (encT u)) = some (.int .i64 (cmpT t u))) :
    ∀ (d i : Nat), i + d = min a.length b.length → rank_lists__Term.l0 (.sl 8 (encV a)) (.sl 8 (encV b)) (.fn 169 []) (.int .i64 ((min a.length b.length : Nat) : Int)) (.int .i64 (i : Int)) = some (.int .i64 (cmpV (a.drop i) (b.drop i)))
  | 0, i, hi => by
    rw [rank_lists__Term.l0_eq, decide_eq_false (by omega), ifF, cmpI_is]
    simp only [someB, asI_, encV_len]
    congr 2
    unfold cmpI
    rcases Nat.lt_trichotomy a.length b.length with hc | hc | hc
    · rw [dropNil (l := a) (by omega), dropCons (l := b) (i := i) (by omega), cmpV, if_pos (by omega)]
    · rw [dropNil (l := a) (by omega), dropNil (l := b) (by omega), cmpV, if_neg (by omega), if_neg (by omega)]
    · rw [dropNil (l := b) (by omega), dropCons (l := a) (i := i) (by omega), cmpV, if_neg (by omega), if_pos (by omega)]
  | d + 1, i, hi => by
    have h1 : i < a.length := by omega
    have h2 : i < b.length := by omega
    have e1 : a[i]? = some a[i] := List.getElem?_eq_getElem h1
    have e2 : b[i]? = some b[i] := List.getElem?_eq_getElem h2
    rw [rank_lists__Term.l0_eq, decide_eq_true (by omega), ifT, idx_at (encT_at e1), idx_at (encT_at e2)]
    have hf : ωκ S 169 ([AV.agg 8 (encT a[i]), AV.agg 8 (encT b[i])] ++ []) = _ := h a[i] (List.getElem_mem h1) b[i] (List.getElem_mem h2)
    rw [hf, w64_succ (by omega), listsT_loop a b ha h d (i + 1) (by omega), dropCons (l := a) h1, dropCons (l := b) h2, cmpV]
    simp only [someB, asI_]
    generalize cmpT a[i] b[i] = x
    unfold fst0
    by_cases h0 : x = 0 <;> simp [h0, ifT, ifF]
theorem rank_is : ∀ (n : Nat), n ≤ 1073741824 → (∀ t u : Tm, szT t ≤ n → rank_Terms (.agg 8 (encT t)) (.agg 8 (encT u)) = some (.int .i64 (cmpT t u))) ∧ (∀ a b : List Tm, szV a ≤ n → rank_Compare (.agg 1 [.sl 8 (encV a)]) (.agg 1 [.sl 8 (encV b)]) = some (.int .i64 (cmpV a b)))
  | 0, _ => by
    have hV : ∀ a b : List Tm, szV a ≤ 0 → rank_Compare (.agg 1 [.sl 8 (encV a)]) (.agg 1 [.sl 8 (encV b)]) = some (.int .i64 (cmpV a b)) := fun a b ha => by
      have hl := szV_len a
      obtain rfl : a = [] := List.eq_nil_of_length_eq_zero (by omega)
      have := listsT_loop [] b (by simp) (fun t ht => by cases ht) 0 0 (by simp)
      rw [rank_Compare.f_eq]
      simp only [getC0, asL8]
      rw [rank_lists__Term.f_eq, encV_len, encV_len]
      rw [List.drop_zero, List.drop_zero] at this
      rw [show (min (((([] : List Tm).length : Nat) : Int)) (b.length : Int)) = ((min ([] : List Tm).length b.length : Nat) : Int) by simp <;> omega]
      change (rank_lists__Term.l0 _ _ _ _ (.int .i64 ((0 : Nat) : Int))).bind _ = _
      rw [this]; rfl
    refine ⟨fun t u ht => ?_, hV⟩
    rw [szT_fs] at ht; omega
  | n + 1, hn => by
    obtain ⟨hT, hV⟩ := rank_is n (by omega)
    have hT' : ∀ t u : Tm, szT t ≤ n + 1 → rank_Terms (.agg 8 (encT t)) (.agg 8 (encT u)) = some (.int .i64 (cmpT t u)) := fun t u ht => by
      rw [szT_fs] at ht
      have hl := szF_len t.fs
      refine terms_is (by omega) fun f hf g hg => hV f.v g.v ?_
      obtain ⟨i, hi⟩ := List.getElem?_of_mem hf
      have := szFd_get hi
      omega
    refine ⟨hT', fun a b ha => ?_⟩
    have hl := szV_len a
    have := listsT_loop a b (by omega) (fun t ht u hu => hT' t u (by
      obtain ⟨i, hi⟩ := List.getElem?_of_mem ht
      have := szT_get hi
      omega)) (min a.length b.length) 0 (by omega)
    rw [rank_Compare.f_eq]
    simp only [getC0, asL8]
    rw [rank_lists__Term.f_eq, encV_len, encV_len]
    rw [List.drop_zero, List.drop_zero] at this
    rw [show (min ((a.length : Nat) : Int) (b.length : Int)) = ((min a.length b.length : Nat) : Int) by omega]
    change (rank_lists__Term.l0 _ _ _ _ (.int .i64 ((0 : Nat) : Int))).bind _ = _
    rw [this]; rfl
theorem rankT_is {t u : Tm} (h : szT t ≤ 1073741824) : rank_Terms (.agg 8 (encT t)) (.agg 8 (encT u)) = some (.int .i64 (cmpT t u)) := (rank_is _ (Nat.le_refl _)).1 t u h
end Go.Proofs.YtmdimhcjogjcgaaGreatDoor.Lat
