/- Several texts of mine in one (merge.py). -/
import Derived.Test.YtffojfcinkihnaaGreatDoorQs
set_option linter.unusedVariables false
set_option linter.unusedSimpArgs false
set_option linter.unusedSectionVars false
set_option linter.deprecated false
set_option linter.unnecessarySimpa false
/- Actions: the document's Drop and Put; what is refused. -/
namespace Go.Proofs.YtffojfcinkihnaaGreatDoor.Lat
open Go.Proofs.YtffojfcinkihnaaGreatDoor.Abs Go.Proofs.YtffojfcinkihnaaGreatDoor.Gr Go.Proofs.YtffojfcinkihnaaGreatDoor.Th
theorem asL3_ {α : Type} (l : List (List AV)) (k : List (List AV) → Option α) : asL 3 (.sl 3 l) k = k l := rfl
theorem asL3o {α : Type} (l : List (List AV)) (k : List (List AV) → Option α) : asL 3 (.own 3 l) k = k l := rfl
theorem asT3_ {α : Type} (a b c : AV) (k : AV → AV → AV → Option α) : asT3 (.tup [a, b, c]) k = k a b c := rfl
theorem encTs_app (a : List Th) (t : Th) : encTs a ++ [encTh t] = encTs (a ++ [t]) := by simp [encTs]
theorem gtAt_first (s : Bs) : ∀ (l : List Th) (j : Nat) (x : Th), l[j]? = some x → bytesLt s x.n = true → gtAt s l ≤ j
  | [], j, x, h, _ => by simp at h
  | y :: r, 0, x, h, hb => by cases h; rw [gtAt, if_pos hb]; exact Nat.le_refl _
  | y :: r, j + 1, x, h, hb => by
    have := gtAt_first s r j x h hb
    rw [gtAt]; split <;> omega
theorem gtAt_is (s : Bs) : ∀ (l : List Th) (x : Th), l[gtAt s l]? = some x → bytesLt s x.n = true
  | [], x, h => by simp [gtAt] at h
  | y :: r, x, h => by
    rw [gtAt] at h
    by_cases hc : bytesLt s y.n = true
    · rw [if_pos hc] at h; cases h; exact hc
    · rw [if_neg hc] at h; exact gtAt_is s r x h
theorem drop30_loop (l : List Th) (s : Bs) (hl : l.length ≤ 1000) : ∀ (d i : Nat), i + d = l.length → ref30_Drop.l0 (.sl 3 (encTs l)) (.str s) (.own 3 (encTs (dropT (l.take i) s))) (.int .i64 (i : Int)) = some (.own 3 (encTs (dropT l s)))
  | 0, i, h => by
    rw [ref30_Drop.l0_eq, encTs_len, decide_eq_false (by omega), ifF, List.take_of_length_le (by omega)]
  | d + 1, i, h => by
    have h1 : i < l.length := by omega
    have e1 : l[i]? = some l[i] := List.getElem?_eq_getElem h1
    have ih := drop30_loop l s hl d (i + 1) (by omega)
    rw [dropT_snoc e1] at ih
    have hle := dropT_len (l.take i) s
    rw [List.length_take] at hle
    rw [ref30_Drop.l0_eq, encTs_len, decide_eq_true (by omega), ifT, idx_at (encTs_at e1), th0]
    simp only [asS_]
    by_cases hn : l[i].n = s
    · rw [if_neg (by simpa using hn)] at ih
      rw [decide_eq_true hn, Bool.not_true, ifF, w64_succ (by omega)]
      exact ih
    · rw [if_pos hn] at ih
      rw [decide_eq_false hn, Bool.not_false, ifT, idx_at (encTs_at e1), gOK (by rw [encTs_len]; simp; omega), guT, w64_succ (by omega), encTs_app]
      exact ih
theorem drop30_is (l : List Th) (s : Bs) (hl : l.length ≤ 1000) : ref30_Drop (.sl 3 (encTs l)) (.str s) = some (.own 3 (encTs (dropT l s))) := by
  rw [ref30_Drop.f_eq]
  exact drop30_loop l s hl l.length 0 (by omega)
theorem put30_rest (l : List Th) (t : Th) (hl : l.length ≤ 1000) : ∀ (d i : Nat) (out : List Th), i + d = l.length → out.length ≤ i + 1 → ref30_Put.l0 (.boxv 3 (encTh t) []) (.sl 3 (encTs l)) (.own 3 (encTs out)) (.bool true) (.int .i64 (i : Int)) = some (.own 3 (encTs (out ++ l.drop i)))
  | 0, i, out, h, ho => by
    rw [ref30_Put.l0_eq2, encTs_len, decide_eq_false (by omega), ifF, dropNil (by omega), List.append_nil]
  | d + 1, i, out, h, ho => by
    have h1 : i < l.length := by omega
    have e1 : l[i]? = some l[i] := List.getElem?_eq_getElem h1
    have ih := put30_rest l t hl d (i + 1) (out ++ [l[i]]) (by omega) (by simp; omega)
    rw [ref30_Put.l0_eq2, encTs_len, decide_eq_true (by omega), ifT, ref30_Put.j1_eq, idx_at (encTs_at e1), gOK (by rw [encTs_len]; simp; omega), guT, w64_succ (by omega), encTs_app, ih, dropCons h1]
    simp
theorem put30_loop (l : List Th) (t : Th) (hl : l.length ≤ 1000) : ∀ (d i : Nat), i + d = l.length → i ≤ gtAt t.n l → ref30_Put.l0 (.boxv 3 (encTh t) []) (.sl 3 (encTs l)) (.own 3 (encTs (l.take i))) (.bool false) (.int .i64 (i : Int)) = some (.own 3 (encTs (l.take (gtAt t.n l) ++ t :: l.drop (gtAt t.n l))))
  | 0, i, h, hg => by
    have := gtAt_le t.n l
    obtain rfl : i = l.length := by omega
    have hgt : gtAt t.n l = l.length := by omega
    rw [ref30_Put.l0_eq, encTs_len, decide_eq_false (by omega), ifF, gOK (by rw [encTs_len]; simp; omega), guT, encTs_app, hgt, List.drop_length]
  | d + 1, i, h, hg => by
    have h1 : i < l.length := by omega
    have e1 : l[i]? = some l[i] := List.getElem?_eq_getElem h1
    rw [ref30_Put.l0_eq, encTs_len, decide_eq_true (by omega), ifT, idx_at (encTs_at e1), th0]
    simp only [asS_]
    rw [th0]
    simp only [asS_, someB]
    have hgtr : (!(bytesLt l[i].n t.n || decide (l[i].n = t.n))) = bytesLt t.n l[i].n := by
      have := gtr_is l[i].n t.n
      rw [bytesLt_eq] at this
      rw [← this, Bool.not_or]
      by_cases he : l[i].n = t.n <;> simp [he]
    rw [hgtr]
    cases hc : bytesLt t.n l[i].n with
    | true =>
      have hgt : gtAt t.n l = i := by
        refine gtAt_at t.n l i l[i] (fun j x hj hx => ?_) e1 hc
        cases hb : bytesLt t.n x.n with
        | false => rfl
        | true =>
          have := gtAt_first t.n l j x hx hb
          omega
      have hr := put30_rest l t hl d (i + 1) (l.take i ++ [t] ++ [l[i]]) (by omega) (by simp; omega)
      rw [ifT, gOK (by rw [encTs_len]; simp; omega), guT, encTs_app, ref30_Put.j1_eq, idx_at (encTs_at e1), gOK (by rw [encTs_len]; simp; omega), guT, w64_succ (by omega), encTs_app, hr, hgt, dropCons h1]
      simp
    | false =>
      have ih := put30_loop l t hl d (i + 1) (by omega) (by
        rcases Nat.lt_or_ge i (gtAt t.n l) with h | h
        · omega
        · have : gtAt t.n l = i := by omega
          have := gtAt_is t.n l l[i] (by rw [this]; exact e1)
          rw [hc] at this; cases this)
      rw [ifF, ref30_Put.j1_eq2, idx_at (encTs_at e1), gOK (by rw [encTs_len]; simp; omega), guT, w64_succ (by omega), encTs_app]
      rw [List.take_add_one, e1] at ih
      exact ih
theorem put30_is (l : List Th) (t : Th) (hl : l.length ≤ 1000) : ref30_Put (.sl 3 (encTs l)) (.agg 3 (encTh t)) = some (.own 3 (encTs (putT l t))) := by
  rw [ref30_Put.f_eq, th0]
  simp only [asS_]
  have hle := dropT_len l t.n
  rw [drop30_is l t.n hl, someB, asL3o]
  exact put30_loop (dropT l t.n) t (by omega) (dropT l t.n).length 0 (by omega) (Nat.zero_le _)
end Go.Proofs.YtffojfcinkihnaaGreatDoor.Lat
/- Actions: what is good, what is refused. -/
namespace Go.Proofs.YtffojfcinkihnaaGreatDoor.Lat
open Go.Proofs.YtffojfcinkihnaaGreatDoor.Abs Go.Proofs.YtffojfcinkihnaaGreatDoor.Gr Go.Proofs.YtffojfcinkihnaaGreatDoor.Th
def gA (t : Th) : Bool := Rn t.n && kOne t.v && (okV Rn t.v && seL true t.v) && risD t.d && !decide (t.n ∈ t.d)
theorem goodA_is (t : Th) (ht : SmTh t) : v_apply_good (.agg 3 (encTh t)) = some (.bool (gA t)) := by
  obtain ⟨k, e, c, hO', hk⟩ := oneP_is t.v ht.v
  have hO : v_fact_One (.agg 1 [.sl 8 (encV t.v)]) = _ := vz_fact_One hO'
  have hN : v_name_Right (.str t.n) = some (.bool (Rn t.n)) := vp_name_Right (nameR_is t.n)
  have hS : v_fact_Ready (.agg 1 [.sl 8 (encV t.v)]) = some (.bool (okV Rn t.v && seL true t.v)) := vp_fact_Ready (readyP_is t.v ht.v)
  have hR : v_name_Rising (.sl 1 (encD t.d)) = some (.bool (risD t.d)) := vp_name_Rising (risN_is t.d (by have := ht.d; omega))
  have hC : v_slices_Contains__string (.sl 1 (encD t.d)) (.str t.n) = some (.bool (decide (t.n ∈ t.d))) := vp_slices_Contains__string (contains_is t.d (by have := ht.d; omega) t.n)
  rw [v_apply_good.f_eq, th1]
  simp only [frz, hO, someB, asT2_]
  rw [show ∀ (q : List AV → Option AV), asC 8 (.agg 8 (.int .i64 k :: c)) q = q (.int .i64 k :: c) from fun q => rfl]
  simp only [asI_, getC0, th0, th1, th2, frz, hN, hS, hR, hC, asS_, asL1_, someB, asB_, andK]
  unfold gA
  rw [← hk]
  cases Rn t.n <;> cases decide (e = 0) <;> cases decide (k = 4) <;> cases (okV Rn t.v && seL true t.v) <;> cases risD t.d <;> cases decide (t.n ∈ t.d) <;> rfl
theorem ac0 {α : Type} (a : Ac) (k : AV → Option α) : getC (encA a) 0 k = k (.int .i64 a.k) := rfl
theorem ac1 {α : Type} (a : Ac) (k : AV → Option α) : getC (encA a) 1 k = k (.str a.t.n) := rfl
theorem ac2 {α : Type} (a : Ac) (k : AV → Option α) : getC (encA a) 2 k = k (.sl 8 (encV a.t.v)) := rfl
theorem ac3 {α : Type} (a : Ac) (k : AV → Option α) : getC (encA a) 3 k = k (.sl 1 (encD a.t.d)) := rfl
def refE (now : List Th) (a : Ac) : Int := if a.k < 1 ∨ 3 < a.k then 1 else if a.k ≠ 1 ∧ gA a.t = false then 1 else if a.k = 2 ∧ a.t.n ∈ nmsT now then 6 else if a.k ≠ 2 ∧ ¬ a.t.n ∈ nmsT now then 5 else 0
theorem refP_is (now : List Th) (hl : now.length ≤ 1000) (a : Ac) (ha : SmTh a.t) : v_apply_refused (.sl 3 (encTs now)) (.agg 4 (encA a)) = some (.int .i64 (refE now a)) := by
  have hF : v_state_Find (.sl 3 (encTs now)) (.str a.t.n) = some (.int .i64 (ixB (nmsT now) a.t.n 0)) := vp_state_Find (findP30_is now (by omega) a.t.n)
  have hG : v_apply_good (.agg 3 [.str a.t.n, .sl 8 (encV a.t.v), .sl 1 (encD a.t.d)]) = some (.bool (gA a.t)) := goodA_is a.t ha
  have hm : decide ((0 : Int) ≤ ixB (nmsT now) a.t.n 0) = decide (a.t.n ∈ nmsT now) := decide_eq_decide.2 (ixB_pos _ _ _)
  rw [v_apply_refused.f_eq]
  simp only [ac0, ac1, ac2, ac3, asS_, asI_, hF, someB, frz, hG, asB_, hm]
  unfold refE
  by_cases h1 : a.k < 1
  · rw [if_pos (.inl h1), decide_eq_true h1]; rfl
  · by_cases h3 : 3 < a.k
    · rw [if_pos (.inr h3), decide_eq_false h1, decide_eq_true h3]; rfl
    · rw [if_neg (by omega), decide_eq_false h1, decide_eq_false h3]
      by_cases h11 : a.k = 1
      · have h2 : ¬ a.k = 2 := by omega
        rw [if_neg (by simp [h11]), if_neg (by simp [h2])]
        by_cases hmm : a.t.n ∈ nmsT now
        · simp [ifB, h11, hmm, someB]
        · simp [ifB, h11, hmm, someB]
      · cases hg : gA a.t with
        | false => simp [ifB, h11, someB]
        | true =>
          by_cases h2 : a.k = 2
          · by_cases hmm : a.t.n ∈ nmsT now
            · simp [ifB, h2, hmm, someB]
            · simp [ifB, h2, hmm, someB]
          · by_cases hmm : a.t.n ∈ nmsT now
            · simp [ifB, h11, h2, hmm, someB]
            · simp [ifB, h11, h2, hmm, someB]
end Go.Proofs.YtffojfcinkihnaaGreatDoor.Lat
/- Actions: the document's refusals; filling as a step. -/
namespace Go.Proofs.YtffojfcinkihnaaGreatDoor.Lat
open Go.Proofs.YtffojfcinkihnaaGreatDoor.Abs Go.Proofs.YtffojfcinkihnaaGreatDoor.Gr Go.Proofs.YtffojfcinkihnaaGreatDoor.Th
theorem refR_j (now : List Th) (a : Ac) (h1 : ¬ a.k < 1) (h3 : ¬ 3 < a.k) (hg : a.k = 1 ∨ gA a.t = true) : ref35_refused.j0 (.boxv 4 (encA a) []) (.bool (decide (a.t.n ∈ nmsT now))) = some (.int .i64 (refE now a)) := by
  rw [ref35_refused.j0_eq]
  simp only [ac0, asI_]
  unfold refE
  rw [if_neg (by omega)]
  rw [if_neg (by rcases hg with h | h <;> simp [h])]
  by_cases h2 : a.k = 2
  · by_cases hmm : a.t.n ∈ nmsT now
    · simp [ifB, h2, hmm, someB]
    · simp [ifB, h2, hmm, someB]
  · by_cases hmm : a.t.n ∈ nmsT now
    · simp [ifB, h2, hmm, someB]
    · simp [ifB, h2, hmm, someB]
theorem refR_is (now : List Th) (hl : now.length ≤ 1000) (a : Ac) (ha : SmTh a.t) : ref35_refused (.sl 3 (encTs now)) (.agg 4 (encA a)) = some (.int .i64 (refE now a)) := by
  have hF := findR_nm now (by omega) a.t.n
  have hm : decide ((0 : Int) ≤ ixB (nmsT now) a.t.n 0) = decide (a.t.n ∈ nmsT now) := decide_eq_decide.2 (ixB_pos _ _ _)
  obtain ⟨k, e, c, hO, hk⟩ := one11_is a.t.v ha.v
  have hN : ref02_Right (.str a.t.n) = some (.bool (Rn a.t.n)) := right2_is a.t.n
  have hS := ready11_is a.t.v ha.v
  have hR := risR_is a.t.d (by have := ha.d; omega)
  have hC := hasR_is a.t.d (by have := ha.d; omega) a.t.n
  rw [ref35_refused.f_eq]
  simp only [ac0, ac1, ac2, ac3, asS_, asI_, hF, someB, frz, hm]
  by_cases h1 : a.k < 1
  · unfold refE
    rw [if_pos (.inl h1), decide_eq_true h1]; rfl
  · by_cases h3 : 3 < a.k
    · unfold refE
      rw [if_pos (.inr h3), decide_eq_false h1, decide_eq_true h3]; rfl
    · rw [decide_eq_false h1, decide_eq_false h3]
      by_cases h11 : a.k = 1
      · rw [show decide ((1 : Int) < a.k) = false from decide_eq_false (by omega)]
        exact refR_j now a h1 h3 (.inl h11)
      · rw [show decide ((1 : Int) < a.k) = true from decide_eq_true (by omega)]
        simp only [hO, someB, asT2_]
        rw [show ∀ (q : List AV → Option AV), asC 8 (.agg 8 (.int .i64 k :: c)) q = q (.int .i64 k :: c) from fun q => rfl]
        simp only [asI_, getC0, asS_, hN, hS, hR, hC, asL1_, someB, asB_, orK]
        have hgg : (((((!Rn a.t.n || !decide (e = 0)) || !decide (k = 4)) || !(okV Rn a.t.v && seL true a.t.v)) || !risD a.t.d) || decide (a.t.n ∈ a.t.d)) = !gA a.t := by
          unfold gA
          rw [← hk]
          cases Rn a.t.n <;> cases decide (e = 0) <;> cases decide (k = 4) <;> cases (okV Rn a.t.v && seL true a.t.v) <;> cases risD a.t.d <;> cases decide (a.t.n ∈ a.t.d) <;> rfl
        rw [Bool.or_false, ifF, ifT]
        rw [hgg]
        cases hg : gA a.t with
        | false =>
          unfold refE
          rw [if_neg (by omega), if_pos ⟨h11, hg⟩]; rfl
        | true =>
          rw [Bool.not_true, ifF]
          exact refR_j now a h1 h3 (.inr hg)
/-! What filling takes is a front of the numbers. -/
mutual
theorem fiT_suf : ∀ (t : Tm) (p : List Int), ∃ u, (fiT Ni t p).2 = p.drop u
  | .mk k lo hi s a m o fs, p => by
    rw [fiT]
    split
    · exact ⟨1, by cases p <;> rfl⟩
    · exact fiF_suf fs p
theorem fiF_suf : ∀ (fs : List Fd) (p : List Int), ∃ u, (fiF Ni fs p).2 = p.drop u
  | [], p => ⟨0, by rw [fiF]; rfl⟩
  | .mk n v :: r, p => by
    obtain ⟨u, hu⟩ := fiL_suf v p
    obtain ⟨u', hu'⟩ := fiF_suf r (fiL Ni v p).2
    exact ⟨u + u', by rw [fiF]; show (fiF Ni r (fiL Ni v p).2).2 = _; rw [hu', hu, List.drop_drop]⟩
theorem fiL_suf : ∀ (v : List Tm) (p : List Int), ∃ u, (fiL Ni v p).2 = p.drop u
  | [], p => ⟨0, by rw [fiL]; rfl⟩
  | t :: r, p => by
    obtain ⟨u, hu⟩ := fiT_suf t p
    obtain ⟨u', hu'⟩ := fiL_suf r (fiT Ni t p).2
    exact ⟨u + u', by rw [fiL]; show (fiL Ni r (fiT Ni t p).2).2 = _; rw [hu', hu, List.drop_drop]⟩
end
theorem fi_cut (v : List Tm) (p : List Int) : p.drop (p.length - (fiL Ni v p).2.length) = (fiL Ni v p).2 := by
  obtain ⟨u, hu⟩ := fiL_suf v p
  rw [hu, List.length_drop]
  by_cases h : u ≤ p.length
  · congr 1; omega
  · rw [List.drop_of_length_le (by omega), List.drop_of_length_le (by omega)]
theorem encP_drop (p : List Int) (n : Nat) : (encP p).drop n = encP (p.drop n) := by simp [encP]
theorem cut_is {α : Type} (v : List Tm) (p : List Int) (k : List (List AV) → Option α) : cutFrom (encP p) ((p.length - (fiL Ni v p).2.length : Nat) : Int) k = k (encP (fiL Ni v p).2) := by
  unfold cutFrom
  have h1 : decide ((0 : Int) ≤ ((p.length - (fiL Ni v p).2.length : Nat) : Int)) = true := decide_eq_true (by omega)
  have h2 : decide (((p.length - (fiL Ni v p).2.length : Nat) : Int) ≤ ((encP p).length : Int)) = true := decide_eq_true (by rw [show (encP p).length = p.length by simp [encP]]; omega)
  rw [h1, h2, Int.toNat_natCast, encP_drop, fi_cut]; rfl
end Go.Proofs.YtffojfcinkihnaaGreatDoor.Lat
/- Actions, whole; the law is true. -/
namespace Go.Proofs.YtffojfcinkihnaaGreatDoor.Lat
open Go.Proofs.YtffojfcinkihnaaGreatDoor.Abs Go.Proofs.YtffojfcinkihnaaGreatDoor.Gr Go.Proofs.YtffojfcinkihnaaGreatDoor.Th
noncomputable def rightB (X : List Th) : Bool := X.all gR && risD (nmsT X) && !ringB (tds X)
theorem rn_nil : Rn ([] : Bs) = false := by decide +kernel
theorem risF_all : ∀ (d : List Bs) (p : Option Bs), risF Rn p (fsD d) = true → ∀ s ∈ d, Rn s = true
  | [], p, _, s, h => by cases h
  | x :: r, p, h, s, hs => by
    have h' : (Rn x && rises p x && risF Rn (some x) (fsD r)) = true := h
    simp only [Bool.and_eq_true] at h'
    rcases List.mem_cons.1 hs with rfl | hs
    · exact h'.1.1
    · exact risF_all r _ h'.2 s hs
theorem drop_nil {X : List Th} (h : rightB X = true) : dropT X [] = X := by
  unfold rightB at h
  simp only [Bool.and_eq_true] at h
  have hr := risF_all (nmsT X) none h.1.2
  unfold dropT
  rw [List.filter_eq_self]
  intro t ht
  refine decide_eq_true fun e => ?_
  have := hr t.n (List.mem_map.2 ⟨t, ht, rfl⟩)
  rw [e, rn_nil] at this
  cases this
theorem tsOK {X : List Th} (hl : X.length ≤ 1000) (h : ∀ t ∈ X, SmTh t) : TsOK X := ⟨by omega, fun t ht => ⟨(h t ht).v, by have := (h t ht).d; omega⟩⟩
theorem mem_dropT {X : List Th} {s : Bs} {t : Th} (h : t ∈ dropT X s) : t ∈ X := (List.mem_filter.1 h).1
theorem mem_putT {X : List Th} {t u : Th} (h : u ∈ putT X t) : u = t ∨ u ∈ X := by
  unfold putT at h
  rcases List.mem_append.1 h with h | h
  · exact .inr (mem_dropT (List.mem_of_mem_take h))
  · rcases List.mem_cons.1 h with h | h
    · exact .inl h
    · exact .inr (mem_dropT (List.mem_of_mem_drop h))
theorem putT_len (X : List Th) (t : Th) : (putT X t).length ≤ X.length + 1 := by
  have := dropT_len X t.n
  unfold putT
  simp only [List.length_append, List.length_take, List.length_cons, List.length_drop]
  omega
theorem stateR {X : List Th} (hl : X.length ≤ 256) (h : ∀ t ∈ X, SmTh t) : v_state_Right (.sl 3 (encTs X)) = some (.bool (rightB X)) := vz_state_Right (rightS_is X hl h)
theorem refR {X : List Th} (hl : X.length ≤ 256) (h : ∀ t ∈ X, SmTh t) : ref30_Right (.sl 3 (encTs X)) = some (.bool (rightB X)) := right30_is X hl h
/-- What both come to. -/
structure Both (a b : Option AV) : Prop where
  ex : ∃ (x : AV) (X : List Th) (at_ e : Int), (x = .own 3 (encTs X) ∨ x = .sl 3 (encTs X)) ∧ X.length ≤ 24 ∧ (∀ t ∈ X, SmTh t) ∧ (e = 0 → rightB X = true) ∧ a = some (.tup [x, .int .i64 at_, .int .i64 e]) ∧ b = some (.tup [x, .int .i64 at_, .int .i64 e])
theorem both_no (at_ e : Int) (he : e ≠ 0) : Both (some (.tup [.own 3 [], .int .i64 at_, .int .i64 e])) (some (.tup [.own 3 [], .int .i64 at_, .int .i64 e])) :=
  ⟨_, [], at_, e, .inl rfl, by simp, (fun t h => by cases h), (fun h => absurd h he), rfl, rfl⟩
theorem asC1_c {α : Type} (c : List AV) (k : List AV → Option α) : asC 1 (.agg 1 c) k = k c := rfl
theorem refE_good {now : List Th} {a : Ac} (h : refE now a = 0) (h1 : a.k ≠ 1) : gA a.t = true := by
  unfold refE at h
  by_cases hr : a.k < 1 ∨ 3 < a.k
  · rw [if_pos hr] at h; cases h
  · rw [if_neg hr] at h
    cases hg : gA a.t with
    | true => rfl
    | false => rw [if_pos ⟨h1, hg⟩] at h; cases h
theorem acts_loop (l : List Ac) (hl : l.length ≤ 12) (hs : ∀ a ∈ l, SmTh a.t) : ∀ (d i : Nat) (p : List Int) (now : List Th), i + d = l.length → now.length ≤ 12 + i → (∀ t ∈ now, SmTh t) → p.length ≤ 60 → (∀ x ∈ p, inI x) →
    Both (v_apply_Actions.l0 (.sl 4 (encAs l)) (.sl 1 (encP p)) (.sl 3 (encTs now)) (.sl 4 (encAs l)) (.int .i64 (l.length : Int)) (.int .i64 (i : Int))) (ref35_Actions.l0 (.sl 4 (encAs l)) (.sl 1 (encP p)) (.sl 3 (encTs now)) (.int .i64 (i : Int)))
  | 0, i, p, now, h, hn, hsm, hp, hin => by
    rw [v_apply_Actions.l0_eq, ref35_Actions.l0_eq, encAs_len, decide_eq_false (by omega), ifF, ifF, stateR (by omega) hsm, refR (by omega) hsm]
    simp only [someB, asB_]
    cases hr : rightB now with
    | false =>
      rw [Bool.not_false, ifT, ifT]
      exact both_no _ _ (by decide)
    | true =>
      have hd : v_state_Drop (.sl 3 (encTs now)) (.str []) = some (.sl 3 (encTs (dropT now []))) := q_drop (tsOK (by omega) hsm)
      rw [Bool.not_true, ifF, ifF, hd, drop_nil hr, someB, asL3_]
      exact ⟨_, now, -1, 0, .inr rfl, by omega, hsm, fun _ => hr, rfl, rfl⟩
  | d + 1, i, p, now, h, hn, hsm, hp, hin => by
    have h1 : i < l.length := by omega
    have e1 : l[i]? = some l[i] := List.getElem?_eq_getElem h1
    have hS := hs _ (List.getElem_mem h1)
    generalize l[i] = a at *
    rw [v_apply_Actions.l0_eq, ref35_Actions.l0_eq, encAs_len, decide_eq_true (by omega), ifT, ifT, idx_at (encAs_at e1), idx_at (encAs_at e1), refP_is now (by omega) a hS, refR_is now (by omega) a hS]
    simp only [someB, asI_]
    by_cases he : refE now a = 0
    · rw [decide_eq_true he, Bool.not_true, ifF, ifF]
      simp only [ac0, asI_]
      by_cases hk : a.k = 1
      · have hd : v_state_Drop (.sl 3 (encTs now)) (.str a.t.n) = some (.sl 3 (encTs (dropT now a.t.n))) := q_drop (tsOK (by omega) hsm)
        rw [decide_eq_true hk, ifT, ifT]
        simp only [ac1, asS_]
        rw [hd, drop30_is now a.t.n (by omega)]
        simp only [someB, asL3_, asL3o]
        rw [w64_succ (by omega)]
        exact acts_loop l hl hs d (i + 1) p (dropT now a.t.n) (by omega) (by have := dropT_len now a.t.n; omega) (fun t ht => hsm t (mem_dropT ht)) hp hin
      · rw [decide_eq_false hk, ifF, ifF]
        have hg := refE_good he hk
        have hos : (okV Rn a.t.v && seL true a.t.v) = true := by
          unfold gA at hg
          simp only [Bool.and_eq_true] at hg ⊢
          exact hg.1.1.2
        have hgood : Abs.Good (a.t.v, p) := ⟨hS.v, by show p.length ≤ _; omega, hin⟩
        have e2 : v_apply_Fill (.agg 1 [.sl 8 (encV a.t.v)]) (.sl 1 (encP p)) = some (Abs.fr (a.t.v, p)) := q_fill hgood
        have e3 := Fill35_is p (by omega) hin a.t.v hS.v
        rw [if_pos hos] at e3
        have ef : Abs.fr (a.t.v, p) = .tup [.agg 1 [.sl 8 (encV (fiL Ni a.t.v p).1)], .int .i64 ((p.length - (fiL Ni a.t.v p).2.length : Nat) : Int), .int .i64 0] := by
          unfold Abs.fr
          rw [if_pos hos]
        rw [ef] at e2
        have hT : SmTh ⟨a.t.n, (fiL Ni a.t.v p).1, a.t.d⟩ := ⟨Nat.le_trans (szV_fi a.t.v p) hS.v, hS.d, hS.n⟩
        have e4 : v_state_Put (.sl 3 (encTs now)) (.agg 3 (encTh ⟨a.t.n, (fiL Ni a.t.v p).1, a.t.d⟩)) = some (.sl 3 (encTs (putT now ⟨a.t.n, (fiL Ni a.t.v p).1, a.t.d⟩))) := q_put (p := (now, ⟨a.t.n, (fiL Ni a.t.v p).1, a.t.d⟩)) ⟨tsOK (by show now.length ≤ _; omega) hsm, hT.v, by have := hT.d; show a.t.d.length ≤ _; exact Nat.le_trans this (by decide)⟩
        have e5 := put30_is now ⟨a.t.n, (fiL Ni a.t.v p).1, a.t.d⟩ (by omega)
        simp only [ac1, ac2, ac3, frz, e2, e3, someB, asT3_, asC1_c, asI_, cut_is, asS_, asL1_]
        rw [show splice (splice [AV.str a.t.n, AV.sl 8 [], AV.sl 1 []] 1 [AV.sl 8 (encV (fiL Ni a.t.v p).1)]) 2 [AV.sl 1 (encD a.t.d)] = encTh ⟨a.t.n, (fiL Ni a.t.v p).1, a.t.d⟩ from rfl, e4, e5]
        simp only [someB, asL3_, asL3o]
        rw [w64_succ (by omega)]
        obtain ⟨u, hu⟩ := fiL_suf a.t.v p
        refine acts_loop l hl hs d (i + 1) (fiL Ni a.t.v p).2 _ (by omega) (by have := putT_len now ⟨a.t.n, (fiL Ni a.t.v p).1, a.t.d⟩; omega) (fun t ht => ?_) (by rw [hu, List.length_drop]; omega) (fun x hx => hin x (by rw [hu] at hx; exact List.mem_of_mem_drop hx))
        rcases mem_putT ht with rfl | ht
        · exact hT
        · exact hsm t ht
    · rw [decide_eq_false he, Bool.not_false, ifT, ifT]
      exact both_no _ _ he
theorem acts_is (now : List Th) (hn : now.length ≤ 12) (hsm : ∀ t ∈ now, SmTh t) (l : List Ac) (hl : l.length ≤ 12) (hs : ∀ a ∈ l, SmTh a.t) (p : List Int) (hp : p.length ≤ 60) (hin : ∀ x ∈ p, inI x) :
    Both (v_apply_Actions (.sl 3 (encTs now)) (.sl 4 (encAs l)) (.sl 1 (encP p))) (ref35_Actions (.sl 3 (encTs now)) (.sl 4 (encAs l)) (.sl 1 (encP p))) := by
  rw [v_apply_Actions.f_eq, ref35_Actions.f_eq, stateR (by omega) hsm, refR (by omega) hsm]
  simp only [someB, asB_]
  cases hr : rightB now with
  | false =>
    rw [Bool.not_false, ifT, ifT]
    exact both_no _ _ (by decide)
  | true =>
    rw [Bool.not_true, ifF, ifF, encAs_len]
    exact acts_loop l hl hs l.length 0 p now (by omega) (by omega) hsm hp hin
theorem allSame_self : ∀ X : List Th, allSame X X = true
  | [] => by unfold allSame; rfl
  | t :: r => by
    unfold allSame
    rw [allSame_self r]
    simp [sameTh, cmpV_self]
end Go.Proofs.YtffojfcinkihnaaGreatDoor.Lat
/- The law of actions: true. -/
namespace Go.Proofs.YtffojfcinkihnaaGreatDoor.Lat
open Go.Proofs.YtffojfcinkihnaaGreatDoor.Abs Go.Proofs.YtffojfcinkihnaaGreatDoor.Gr Go.Proofs.YtffojfcinkihnaaGreatDoor.Th
def awkP : List Tm × List Int := ([.mk 4 0 0 [] false false false [.mk [105, 100] [.mk 3 0 0 [] true true false []]]], [7])
theorem awkP_good : Abs.Good awkP := ⟨by decide, by decide, fun x hx => by simp [awkP] at hx; subst hx; unfold inI; omega⟩
theorem awkP_ok : (okV Rn awkP.1 && seL true awkP.1) = true := by decide +kernel
theorem Ni7 : Ni 7 = [55] := by rw [Ni_in (by unfold inI; omega), itoa_pos' _ (by omega), show (7 : Int).toNat = 7 from rfl, dec_small' (by omega)]; rfl
theorem awkP_fi : fiL Ni awkP.1 awkP.2 = ([.mk 4 0 0 [] false false false [.mk [105, 100] [.mk 3 0 0 [116, 55] false false false []]]], []) := by
  have h : ∀ x : Bs, x = Ni 7 → fiL Ni awkP.1 awkP.2 = ([.mk 4 0 0 [] false false false [.mk [105, 100] [.mk 3 0 0 (116 :: x) false false false []]]], []) := fun x hx => by subst hx; rfl
  exact h [55] Ni7.symm
theorem awakeA_is : v_law35_awake = some (.bool true) := by
  rw [v_law35_awake.f_eq]
  have e : v_apply_Fill (.agg 1 [.sl 8 (encV awkP.1)]) (.sl 1 (encP awkP.2)) = some (Abs.fr awkP) := q_fill awkP_good
  have e2 : Abs.fr awkP = .tup [.agg 1 [.sl 8 (encV [.mk 4 0 0 [] false false false [.mk [105, 100] [.mk 3 0 0 [116, 55] false false false []]]])], .int .i64 1, .int .i64 0] := by
    unfold Abs.fr
    rw [if_pos awkP_ok, awkP_fi]; rfl
  rw [e2] at e
  exact (congrArg (fun x => Option.bind x _) e).trans rfl
theorem does_true (a : List Th) (l : List Ac) (p : List Int) (hl : l.length * 64 ≤ 140737488355328) (hr : ∀ x ∈ p, inI x) : ωκ Q 5 [.sl 3 (encTs a), .sl 4 (encAs l), .sl 1 (encP p)] = some (.bool true) := by
  show v_law35_ApplyDoes (.sl 3 (encTs a)) (.sl 4 (encAs l)) (.sl 1 (encP p)) = some (.bool true)
  rw [v_law35_ApplyDoes.f_eq]
  obtain ⟨b, hb, hbt⟩ := fewT_is a
  have e1 : v_law30_Few (.sl 3 (encTs a)) = some (.bool b) := vp_law30_Few hb
  have e2 : v_law33_Few (.sl 4 (encAs l)) = some (.bool (fewB l)) := q_few hl
  have hlt := (fewB_is l).2
  rw [e1]
  simp only [someB, asB_, e2, orK, awakeA_is, show (encP p).length = p.length by simp [encP]]
  by_cases hc : ((!b || !fewB l) || decide ((60 : Int) < (p.length : Int))) = true
  · rw [hc, ifT]
  · have hcf : ((!b || !fewB l) || decide ((60 : Int) < (p.length : Int))) = false := by simpa using hc
    rw [hcf, ifF]
    simp only [Bool.or_eq_false_iff, Bool.not_eq_false', decide_eq_false_iff_not] at hcf
    obtain ⟨⟨hbT, hfT⟩, hp⟩ := hcf
    obtain ⟨h1, h2⟩ := hbt hbT
    obtain ⟨h3, h4⟩ := hlt hfT
    rw [thsOf, List.length_map] at h3
    obtain ⟨x, X, at_, e, hx, hX, hXs, hXr, r1, r2⟩ := (acts_is a h1 h2 l h3 (fun q hq => h4 q.t (List.mem_map.2 ⟨q, hq, rfl⟩)) p (by omega) hr).ex
    have r2' : v_ref35_Actions (.sl 3 (encTs a)) (.sl 4 (encAs l)) (.sl 1 (encP p)) = _ := vp_ref35_Actions r2
    have e3 : v_ref29_Things (.sl 3 (encTs X)) (.sl 3 (encTs X)) = some (.bool true) := vp_ref29_Things ((things_is X X (by omega) hXs).trans (by rw [allSame_self]; simp))
    have e4 : v_ref30_Right (.sl 3 (encTs X)) = some (.bool (rightB X)) := vp_ref30_Right (refR (by omega) hXs)
    have hasL : ∀ k : List (List AV) → Option AV, asL 3 x k = k (encTs X) := fun k => by
      rcases hx with rfl | rfl
      · rfl
      · rfl
    rw [r1, r2']
    simp only [someB, asT3_, hasL, asI_, asB_, e3, e4, ifT, decide_true]
    by_cases he : e = 0
    · rw [hXr he]
      simp [ifB, he, someB]
    · simp [ifB, he, someB]
end Go.Proofs.YtffojfcinkihnaaGreatDoor.Lat
