/- Names that rise; what is filled is right, settled and below. -/
import Derived.Test.YtffojfcinkihnaaGreatDoorLatA
set_option linter.unusedVariables false
set_option linter.unusedSimpArgs false
set_option linter.unusedSectionVars false
set_option linter.deprecated false
set_option linter.unnecessarySimpa false
namespace Go.Proofs.YtffojfcinkihnaaGreatDoor.Lat
set_option linter.unusedVariables false
open Go.Proofs.YtffojfcinkihnaaGreatDoor.Abs (bytesLt)

theorem u8_lt (a b : UInt8) : a < b ↔ a.toNat < b.toNat := UInt8.lt_iff_toNat_lt
theorem blt_irr : ∀ x : Bs, bytesLt x x = false
  | [] => rfl
  | a :: x => by rw [bytesLt, blt_irr x]; simp
theorem blt_asym : ∀ x y : Bs, bytesLt x y = true → bytesLt y x = false
  | [], [], h => by simp [bytesLt] at h
  | [], _ :: _, _ => rfl
  | _ :: _, [], h => by simp [bytesLt] at h
  | a :: x, b :: y, h => by
    simp only [bytesLt, Bool.or_eq_true, decide_eq_true_eq, Bool.and_eq_true, beq_iff_eq, Bool.or_eq_false_iff, decide_eq_false_iff_not, Bool.and_eq_false_iff] at h ⊢
    rcases h with h | ⟨rfl, h⟩
    · refine ⟨fun h2 => ?_, .inl ?_⟩
      · rw [u8_lt] at h h2; omega
      · rw [beq_eq_false_iff_ne]; rintro rfl; rw [u8_lt] at h; omega
    · exact ⟨fun h2 => by rw [u8_lt] at h2; omega, .inr (blt_asym x y h)⟩
theorem blt_trans : ∀ x y z : Bs, bytesLt x y = true → bytesLt y z = true → bytesLt x z = true
  | _, _, [], _, h => by simp [bytesLt] at h
  | _, [], _ :: _, h, _ => by simp [bytesLt] at h
  | [], _ :: _, _ :: _, _, _ => rfl
  | a :: x, b :: y, c :: z, h, k => by
    simp only [bytesLt, Bool.or_eq_true, decide_eq_true_eq, Bool.and_eq_true, beq_iff_eq] at h k ⊢
    rcases h with h | ⟨rfl, h⟩ <;> rcases k with k | ⟨rfl, k⟩
    · left; rw [u8_lt] at *; omega
    · exact .inl h
    · exact .inl k
    · exact .inr ⟨rfl, blt_trans x y z h k⟩
theorem blt_total : ∀ x y : Bs, bytesLt x y = false → bytesLt y x = false → x = y
  | [], [], _, _ => rfl
  | [], _ :: _, h, _ => by simp [bytesLt] at h
  | _ :: _, [], _, h => by simp [bytesLt] at h
  | a :: x, b :: y, h, k => by
    simp only [bytesLt, Bool.or_eq_false_iff, decide_eq_false_iff_not, Bool.and_eq_false_iff] at h k
    have : a = b := UInt8.toNat_inj.1 (by have h1 := h.1; have k1 := k.1; rw [u8_lt] at h1 k1; omega)
    subst this
    have h2 := h.2.resolve_left (by simp)
    have k2 := k.2.resolve_left (by simp)
    rw [blt_total x y h2 k2]
theorem cmpS_0 {x y : Bs} : cmpS x y = 0 ↔ x = y := by
  unfold cmpS
  constructor
  · intro h
    split at h
    · omega
    · rename_i h1
      split at h
      · omega
      · rename_i h2
        exact blt_total x y (by simpa using h1) (by simpa using h2)
  · rintro rfl
    rw [blt_irr]; rfl
theorem cmpI_0 {x y : Int} : cmpI x y = 0 ↔ x = y := by unfold cmpI; split <;> (try split) <;> omega
section
variable (R : Bs → Bool)
theorem ris_lt : ∀ (fs : List Fd) (p : Bs), risF R (some p) fs = true → ∀ f ∈ fs, bytesLt p f.n = true
  | [], p, _, f, hf => by cases hf
  | .mk n v :: r, p, h, f, hf => by
    rw [risF] at h
    simp only [Bool.and_eq_true] at h
    rcases List.mem_cons.1 hf with rfl | hf
    · exact h.1.2
    · exact blt_trans _ _ _ h.1.2 (ris_lt r n h.2 f hf)
theorem ris_tail {p : Option Bs} {f : Fd} {r : List Fd} (h : risF R p (f :: r) = true) : risF R (some f.n) r = true := by
  obtain ⟨n, v⟩ := f
  rw [risF] at h
  simp only [Bool.and_eq_true] at h
  exact h.2
theorem find_mem : ∀ (fs : List Fd) (p : Option Bs), risF R p fs = true → ∀ f ∈ fs, findF fs f.n = some f.v
  | [], p, _, f, hf => by cases hf
  | .mk n v :: r, p, h, f, hf => by
    have h2 := ris_tail R h
    rw [findF]
    rcases List.mem_cons.1 hf with rfl | hf
    · exact if_pos rfl
    · rw [if_neg, find_mem r (some n) h2 f hf]
      intro e
      have := ris_lt R r n h2 f hf
      rw [e, blt_irr] at this
      cases this
end
theorem undF_all : ∀ (a fs : List Fd), undF a fs = true ↔ ∀ f ∈ fs, ∃ w, findF a f.n = some w ∧ undV w f.v = true
  | a, [] => by simp [undF]
  | a, .mk n v :: r => by
    rw [undF, Bool.and_eq_true, undF_all a r]
    simp only [List.mem_cons, forall_eq_or_imp]
    refine and_congr ?_ Iff.rfl
    show _ ↔ ∃ w, findF a n = some w ∧ undV w v = true
    cases findF a n with
    | none => simp
    | some w => simp [undV]

/-! Settled, ready; filled -/
mutual
def seT (w : Bool) : Tm → Bool
  | .mk k lo hi s a m o fs => decide (k ≠ 5) && (if k = 4 then seF w fs else single (.mk k lo hi s a m o fs) || (w && m))
def seF (w : Bool) : List Fd → Bool
  | [] => true
  | .mk _ v :: r => seL w v && seF w r
def seL (w : Bool) : List Tm → Bool
  | [t] => seT w t
  | _ => false
end
section
variable (N : Int → Bs)
def firm : Tm → Int → Tm
  | .mk k lo hi _ _ _ _ _, p =>
    if k = 1 then .mk 1 (p % 2) (p % 2) [] false false false []
    else if k = 2 then .mk 2 (lo + p % (hi - lo + 1)) (lo + p % (hi - lo + 1)) [] false false false []
    else .mk 3 0 0 (116 :: N p) false false false []
mutual
def fiT : Tm → List Int → Tm × List Int
  | .mk k lo hi s a m o fs, p => if m = true then (firm N (.mk k lo hi s a m o fs) (p.headD 0), p.tail) else (.mk k lo hi s a m o (fiF fs p).1, (fiF fs p).2)
def fiF : List Fd → List Int → List Fd × List Int
  | [], p => ([], p)
  | .mk n v :: r, p => (.mk n (fiL v p).1 :: (fiF r (fiL v p).2).1, (fiF r (fiL v p).2).2)
def fiL : List Tm → List Int → List Tm × List Int
  | [], p => ([], p)
  | t :: r, p => ((fiT t p).1 :: (fiL r (fiT t p).2).1, (fiL r (fiT t p).2).2)
end
variable (R : Bs → Bool) (hN : ∀ p, (N p).length ≤ 255)
theorem ris_names : ∀ (fs fs' : List Fd) (p : Option Bs), fs.map Fd.n = fs'.map Fd.n → risF R p fs = risF R p fs'
  | [], [], _, _ => rfl
  | [], _ :: _, _, h => by simp at h
  | _ :: _, [], _, h => by simp at h
  | .mk n v :: r, .mk n' v' :: r', p, h => by
    simp only [List.map_cons, List.cons.injEq] at h
    obtain ⟨h1, h2⟩ := h
    have h1 : n = n' := h1
    subst h1
    rw [risF, risF, ris_names r r' _ h2]
theorem fiF_names : ∀ (fs : List Fd) (p : List Int), ((fiF N fs p).1).map Fd.n = fs.map Fd.n
  | [], p => by rw [fiF]
  | .mk n v :: r, p => by
    rw [fiF]
    simp only [List.map_cons, fiF_names r]
    rfl
include hN in
/-- A scalar that waits, filled. -/
theorem firm_ok (t : Tm) (p : Int) (h1 : scal t = true) (h2 : t.m = true) : scal (firm N t p) = true ∧ belowS (firm N t p) t = true ∧ single (firm N t p) = true ∧ (firm N t p).k = t.k ∧ (firm N t p).fs = [] ∧ t.k ≠ 4 ∧ t.k ≠ 5 ∧ t.fs = [] := by
  obtain ⟨k, lo, hi, s, a, m, o, fs⟩ := t
  obtain rfl : m = true := h2
  rw [scal] at h1
  by_cases hn : (o || !fs.isEmpty || (true && single (.mk k lo hi s a true o fs))) = true
  · rw [if_pos hn] at h1; cases h1
  rw [if_neg hn] at h1
  simp only [Bool.or_eq_true, not_or, Bool.not_eq_true, Bool.true_and, Bool.not_eq_false', List.isEmpty_iff] at hn
  obtain ⟨⟨rfl, rfl⟩, hs⟩ := hn
  by_cases hk : k = 3
  · subst hk
    have ha : a = true := by cases a <;> simp_all [single]
    subst ha
    simp at h1
    obtain ⟨⟨rfl, rfl⟩, rfl⟩ := h1
    have hx := hN p
    have hx2 : (116 :: N p).length ≤ 256 := by simp; omega
    have hf : firm N (.mk 3 0 0 [] true true false []) p = .mk 3 0 0 (116 :: N p) false false false [] := by simp [firm]
    rw [hf]
    generalize 116 :: N p = x at hx2
    have s1 : scal (.mk 3 0 0 x false false false []) = true := by simp [scal, hx2]
    have s2 : scal (.mk 3 0 0 [] true true false []) = true := by decide
    refine ⟨s1, ?_, by simp [single], rfl, rfl, by decide, by decide, rfl⟩
    unfold belowS
    rw [meetS, s1, s2]
    simp [single, sameS, s1]
  · rw [if_neg hk] at h1
    by_cases hk : k = 1
    · subst hk
      simp at h1
      obtain ⟨⟨h1, h2, h3, rfl⟩, rfl⟩ := h1
      have hlh : lo ≠ hi := by simpa [single] using hs
      obtain rfl : lo = 0 := by omega
      obtain rfl : hi = 1 := by omega
      have : p % 2 = 0 ∨ p % 2 = 1 := by omega
      rcases this with h | h <;> (rw [firm, if_pos rfl, h]; decide)
    · rw [if_neg hk] at h1
      by_cases hk : k = 2
      · subst hk
        simp at h1
        obtain ⟨⟨h1, h2, h3, rfl⟩, rfl⟩ := h1
        have hlh : lo ≠ hi := by simpa [single] using hs
        have q1 := Int.emod_nonneg p (show hi - lo + 1 ≠ 0 by omega)
        have q2 := Int.emod_lt_of_pos p (show 0 < hi - lo + 1 by omega)
        have hf : firm N (.mk 2 lo hi [] false true false []) p = .mk 2 (lo + p % (hi - lo + 1)) (lo + p % (hi - lo + 1)) [] false false false [] := by simp [firm]
        rw [hf]
        generalize p % (hi - lo + 1) = q at q1 q2
        have s1 : scal (.mk 2 (lo + q) (lo + q) [] false false false []) = true := by
          simp [scal]; omega
        have s2 : scal (.mk 2 lo hi [] false true false []) = true := by
          simp [scal, single]; omega
        refine ⟨s1, ?_, by simp [single], rfl, rfl, (show (2 : Int) ≠ 4 by decide), (show (2 : Int) ≠ 5 by decide), rfl⟩
        unfold belowS
        rw [meetS, s1, s2, show max (lo + q) lo = lo + q by omega, show min (lo + q) hi = lo + q by omega]
        simp [single, sameS, s1]
      · rw [if_neg hk] at h1
        cases h1
theorem ind_one (t : Tm) : indV [t] = true := by
  unfold indV
  rw [List.all_eq_true]
  intro i hi
  rw [List.all_eq_true]
  intro k hk
  have hi : i < 1 := List.mem_range.1 hi
  have hk : k < 1 := List.mem_range.1 hk
  obtain rfl : i = 0 := by omega
  obtain rfl : k = 0 := by omega
  simp
/-- Each field has its fellow. -/
inductive Fel : List Fd → List Fd → Prop
  | nil : Fel [] []
  | cons {f g : Fd} {r q : List Fd} (h : f.n = g.n) (u : undV f.v g.v = true) (k : Fel r q) : Fel (f :: r) (g :: q)
theorem Fel.left {a b : List Fd} (h : Fel a b) : ∀ f ∈ a, ∃ g ∈ b, f.n = g.n := by
  induction h with
  | nil => intro f hf; cases hf
  | cons h u k ih =>
    intro f hf
    rcases List.mem_cons.1 hf with rfl | hf
    · exact ⟨_, List.mem_cons_self .., h⟩
    · obtain ⟨g, hg, e⟩ := ih f hf
      exact ⟨g, List.mem_cons_of_mem _ hg, e⟩
theorem Fel.right {a b : List Fd} (h : Fel a b) : ∀ g ∈ b, ∃ f ∈ a, f.n = g.n ∧ undV f.v g.v = true := by
  induction h with
  | nil => intro f hf; cases hf
  | cons h u k ih =>
    intro g hg
    rcases List.mem_cons.1 hg with rfl | hg
    · exact ⟨_, List.mem_cons_self .., h, u⟩
    · obtain ⟨f, hf, e⟩ := ih g hg
      exact ⟨f, List.mem_cons_of_mem _ hf, e⟩
theorem fel_und {a b : List Fd} (h : Fel a b) (ha : risF R none a = true) (hb : risF R none b = true) : hasAll a b = true ∧ undF a b = true := by
  constructor
  · unfold hasAll
    rw [List.all_eq_true]
    intro f hf
    obtain ⟨g, hg, e⟩ := h.left f hf
    rw [e, find_mem R b none hb g hg]; rfl
  · rw [undF_all]
    intro g hg
    obtain ⟨f, hf, e, u⟩ := h.right g hg
    exact ⟨f.v, by rw [← e]; exact find_mem R a none ha f hf, u⟩
include hN
mutual
theorem fiT_ok : ∀ (t : Tm) (p : List Int), rcT R t = true → seT true t = true →
    rcT R (fiT N t p).1 = true ∧ seT false (fiT N t p).1 = true ∧ wtT (fiT N t p).1 = wtT t ∧ dpT (fiT N t p).1 = dpT t ∧ undT (fiT N t p).1 t = true
  | .mk k lo hi s a m o fs, p, h1, h2 => by
    rw [rcT] at h1
    rw [seT] at h2
    simp only [Bool.and_eq_true, decide_eq_true_eq] at h2
    obtain ⟨hk5, h2⟩ := h2
    rw [if_neg hk5] at h1
    by_cases hk : k = 4
    · subst hk
      rw [if_pos rfl] at h1 h2
      simp only [Bool.and_eq_true] at h1
      obtain ⟨h1, h3⟩ := h1
      obtain ⟨f1, f2, f3, f4, f5⟩ := fiF_ok fs p h3 h2
      have hb := h1
      rw [bareT] at hb
      simp only [Bool.and_eq_true, decide_eq_true_eq, Bool.not_eq_true'] at hb
      obtain ⟨⟨⟨⟨hb1, hb2⟩, hb3⟩, hb4⟩, hb5⟩ := hb
      have hnm := fiF_names N fs p
      have hr' : risF R none (fiF N fs p).1 = true := by rw [ris_names R _ fs none hnm]; exact hb5
      obtain ⟨u1, u2⟩ := fel_und R f5 hr' hb5
      rw [fiT, hb3, if_neg (by decide)]
      refine ⟨?_, ?_, ?_, ?_, ?_⟩
      · rw [rcT, if_neg (by decide), if_pos rfl, f1]
        have hl : (fiF N fs p).1.length = fs.length := by have := congrArg List.length hnm; simpa using this
        rw [bareT, hr', hl, hb2]
        simp [hb1, hb4]
      · rw [seT, if_pos rfl, f2]; simp
      · rw [wtT, wtT, f3]
      · rw [dpT, dpT, f4]
      · rw [undT, if_neg (by simp [Tm.k]), show (Tm.mk 4 lo hi s a false o (fiF N fs p).1).fs = (fiF N fs p).1 from rfl, u1, u2]
        simp [Tm.o]
    · rw [if_neg hk] at h1 h2
      simp only [Bool.or_eq_true, Bool.true_and] at h2
      rw [fiT]
      by_cases hm : m = true
      · subst hm
        rw [if_pos rfl]
        obtain ⟨q1, q2, q3, q4, q5, q6, q7, q8⟩ := firm_ok N hN (.mk k lo hi s a true o fs) (p.headD 0) h1 rfl
        have q8 : fs = [] := q8
        subst q8
        generalize firm N (.mk k lo hi s a true o []) (p.headD 0) = x at q1 q2 q3 q4 q5
        obtain ⟨k', lo', hi', s', a', m', o', fs'⟩ := x
        simp only [Tm.k, Tm.fs] at q4 q5
        subst q4
        subst q5
        refine ⟨?_, ?_, ?_, ?_, ?_⟩
        · rw [rcT, if_neg hk5, if_neg hk]; exact q1
        · rw [seT, if_neg hk, q3]; simp [hk5]
        · rw [wtT, wtT]
        · rw [dpT, dpT]
        · rw [undT, if_pos (.inl hk), q2]; simp
      · rw [if_neg hm]
        have hm : m = false := by simpa using hm
        subst hm
        have h3 := h1
        rw [scal] at h3
        by_cases hn : (o || !fs.isEmpty || (false && single (.mk k lo hi s a false o fs))) = true
        · rw [if_pos hn] at h3; cases h3
        · simp only [Bool.or_eq_true, not_or, Bool.not_eq_true, Bool.not_eq_false', List.isEmpty_iff] at hn
          obtain ⟨⟨rfl, rfl⟩, _⟩ := hn
          have hs : single (.mk k lo hi s a false false []) = true := by simpa using h2
          rw [fiF]
          refine ⟨?_, ?_, rfl, rfl, ?_⟩
          · rw [rcT, if_neg hk5, if_neg hk]; exact h1
          · rw [seT, if_neg hk, hs]; simp [hk5]
          · rw [undT, if_pos (.inl hk)]
            have : belowS (.mk k lo hi s a false false []) (.mk k lo hi s a false false []) = true := by
              unfold belowS
              rw [meetS, h1, Int.max_self, Int.min_self]
              have hlh : ¬ hi < lo := by
                rw [if_neg (by simp)] at h3
                intro hc
                split at h3
                · simp at h3; omega
                · split at h3
                  · simp at h3; omega
                  · split at h3
                    · simp at h3; omega
                    · cases h3
              rw [if_pos (by simp), if_neg hlh, if_pos (by simp), show (bif a then s else s) = s from by cases a <;> rfl]
              simp [sameS, h1]
            rw [this]; simp
theorem fiF_ok : ∀ (fs : List Fd) (p : List Int), rcF R fs = true → seF true fs = true →
    rcF R (fiF N fs p).1 = true ∧ seF false (fiF N fs p).1 = true ∧ wtF (fiF N fs p).1 = wtF fs ∧ dpF (fiF N fs p).1 = dpF fs ∧ Fel (fiF N fs p).1 fs
  | [], p, _, _ => by rw [fiF]; exact ⟨by rw [rcF], by rw [seF], rfl, rfl, .nil⟩
  | .mk n v :: r, p, h1, h2 => by
    rw [rcF] at h1
    rw [seF] at h2
    simp only [Bool.and_eq_true] at h1 h2
    obtain ⟨⟨h0, ⟨h1, _⟩, _⟩, h3⟩ := h1
    obtain ⟨l1, l2, l3, l4, l5, l6⟩ := fiL_ok v p h1 h2.1
    obtain ⟨r1, r2, r3, r4, r5⟩ := fiF_ok r (fiL N v p).2 h3 h2.2
    rw [fiF]
    refine ⟨?_, ?_, ?_, ?_, .cons rfl l5 r5⟩
    · rw [rcF, r1, l1]
      obtain ⟨t', e⟩ := l6
      rw [e, ind_one]
      rfl
    · rw [seF, l2, r2]; rfl
    · rw [wtF, wtF, l3, r3]
    · rw [dpF, dpF, l4, r4]
theorem fiL_ok : ∀ (v : List Tm) (p : List Int), rcL R v = true → seL true v = true →
    rcL R (fiL N v p).1 = true ∧ seL false (fiL N v p).1 = true ∧ wtV (fiL N v p).1 = wtV v ∧ dpV (fiL N v p).1 = dpV v ∧ undV (fiL N v p).1 v = true ∧ ∃ t, (fiL N v p).1 = [t]
  | [], p, _, h => by simp [seL] at h
  | [t], p, h1, h2 => by
    rw [rcL] at h1
    rw [seL] at h2
    simp only [Bool.and_eq_true] at h1
    obtain ⟨t1, t2, t3, t4, t5⟩ := fiT_ok t p h1.1 h2
    rw [fiL, fiL]
    refine ⟨?_, ?_, ?_, ?_, ?_, _, rfl⟩
    · rw [rcL, t1, rcL]; rfl
    · rw [seL]; exact t2
    · rw [wtV, wtV, t3, wtV, wtV]
    · rw [dpV, dpV, t4, dpV, dpV]
    · unfold undV
      simp only [List.all_cons, List.all_nil, Bool.and_true]
      rw [undA, t5]; rfl
  | _ :: _ :: _, p, _, h => by simp [seL] at h
end
end
end Go.Proofs.YtffojfcinkihnaaGreatDoor.Lat
