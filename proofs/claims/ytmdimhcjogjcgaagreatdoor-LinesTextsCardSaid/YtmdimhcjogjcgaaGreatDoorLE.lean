/- The document's order of points. -/
import Derived.Test.YtmdimhcjogjcgaaGreatDoorLD
import Derived.Test.YtmdimhcjogjcgaaGreatDoorGB
import Derived.Test.YtmdimhcjogjcgaaGreatDoorGD
set_option linter.unusedVariables false
set_option linter.unusedSimpArgs false
set_option linter.unusedSectionVars false
set_option linter.deprecated false
set_option linter.unnecessarySimpa false
namespace Go.Proofs.YtmdimhcjogjcgaaGreatDoor.Lat
open Go.Proofs.YtmdimhcjogjcgaaGreatDoor.Abs
theorem asL1o {α : Type} (l : List (List AV)) (k : List (List AV) → Option α) : asL 1 (.own 1 l) k = k l := rfl
section
variable (N : List Bs) (E : List (Bs × Bs)) (hN : N.length ≤ 1048576) (hE : E.length ≤ 1048576)
include hN hE
/-- What is out so far. -/
structure OutOK (O : List Bs) : Prop where
  nd : O.Nodup
  sub : ∀ x ∈ O, x ∈ N
  pre : ∀ (i : Nat) (k : Bs), O[i]? = some k → ∀ y, (k, y) ∈ E → y ∈ O.take i
def Stuck (O : List Bs) : Prop := ∀ p ∈ N, p ∉ O → ∃ y, (p, y) ∈ E ∧ y ∉ O
theorem ord3_loop (O L : List Bs) (hO : O.length ≤ 1048576) (hL : L.length ≤ 1048576) (n : Int) (s : Bs) (j : Nat) (hj : j < N.length) : ∀ (d i : Nat) (b : Bool), i + d = L.length →
    ref17_Order.l3 (.sl 1 (encD N)) (.sl 2 (encE E)) (.own 1 (encD O)) (.int .i64 n) (.str s) (.bool false) (.int .i64 (j : Int)) (.bool b) (.sl 1 (encD L)) (.int .i64 (i : Int)) =
      if (b && (L.drop i).all fun y => decide (y ∈ O)) = true then ref17_Order.l1 (.sl 1 (encD N)) (.sl 2 (encE E)) (.own 1 (encD O)) (.int .i64 n) (.str N[j]) (.bool true) (.int .i64 ((j + 1 : Nat) : Int))
      else ref17_Order.l1 (.sl 1 (encD N)) (.sl 2 (encE E)) (.own 1 (encD O)) (.int .i64 n) (.str s) (.bool false) (.int .i64 ((j + 1 : Nat) : Int))
  | 0, i, b, h => by
    rw [ref17_Order.l3_eq2, encD_len, decide_eq_false (by omega), ifF, dropNil (by omega), idx_at (encD_at (List.getElem?_eq_getElem hj)), str0, w64_succ (by omega)]
    simp only [asS_]
    cases b <;> rfl
  | d + 1, i, b, h => by
    have h1' : i < L.length := by omega
    have e1 : L[i]? = some L[i] := List.getElem?_eq_getElem h1'
    rw [ref17_Order.l3_eq2, encD_len, decide_eq_true (by omega), ifT, idx_at (encD_at e1), str0]
    simp only [asS_]
    have := hasR_is O (by omega) L[i]
    have hH : ref17_Has (.sl 1 (encD O)) (.str L[i]) = some (.bool (decide (L[i] ∈ O))) := this
    rw [hH]
    simp only [someB, asB_]
    have ha : ifB b (some (decide (L[i] ∈ O))) (some false) = some (b && decide (L[i] ∈ O)) := by cases b <;> rfl
    rw [ha]
    simp only [someB]
    rw [w64_succ (by omega), ord3_loop O L hO hL n s j hj d (i + 1) _ (by omega), dropCons h1', List.all_cons, Bool.and_assoc]
theorem ord1_true (O : List Bs) (hO : O.length ≤ 1048576) (n : Nat) (hn : n ≤ 1048576) (s : Bs) (j : Int) : ref17_Order.l1 (.sl 1 (encD N)) (.sl 2 (encE E)) (.own 1 (encD O)) (.int .i64 (n : Int)) (.str s) (.bool true) (.int .i64 j) = ref17_Order.l0 (.sl 1 (encD N)) (.sl 2 (encE E)) (.own 1 (encD (O ++ [s]))) (.int .i64 ((n + 1 : Nat) : Int)) := by
  rw [ref17_Order.l1_eq2]
  have : ∀ c : Bool, ifB c (some false) (some false) = some false := fun c => by cases c <;> rfl
  rw [this]
  simp only [someB]
  rw [ifF, gOK (by rw [encD_len]; simp; omega), guT, encD_app, w64_succ (by omega)]
theorem ord1_find (O : List Bs) (hO : O.length ≤ 1048576) (n : Nat) (hn : n ≤ 1048576) (s : Bs) : ∀ (d j : Nat), j + d = N.length →
    (∃ p ∈ N, p ∉ O ∧ (∀ y, (p, y) ∈ E → y ∈ O) ∧ ref17_Order.l1 (.sl 1 (encD N)) (.sl 2 (encE E)) (.own 1 (encD O)) (.int .i64 (n : Int)) (.str s) (.bool false) (.int .i64 (j : Int)) = ref17_Order.l0 (.sl 1 (encD N)) (.sl 2 (encE E)) (.own 1 (encD (O ++ [p]))) (.int .i64 ((n + 1 : Nat) : Int))) ∨
    ((∀ p ∈ N.drop j, p ∉ O → ∃ y, (p, y) ∈ E ∧ y ∉ O) ∧ ref17_Order.l1 (.sl 1 (encD N)) (.sl 2 (encE E)) (.own 1 (encD O)) (.int .i64 (n : Int)) (.str s) (.bool false) (.int .i64 (j : Int)) = ref17_Order.l0 (.sl 1 (encD N)) (.sl 2 (encE E)) (.own 1 (encD O)) (.int .i64 ((n + 1 : Nat) : Int)))
  | 0, j, h => by
    refine .inr ⟨by rw [dropNil (by omega)]; simp, ?_⟩
    rw [ref17_Order.l1_eq, encD_len, decide_eq_false (by omega), ifF]
    simp only [someB]
    rw [ifF, w64_succ (by omega)]
  | d + 1, j, h => by
    have h1' : j < N.length := by omega
    have e1 : N[j]? = some N[j] := List.getElem?_eq_getElem h1'
    have hH : ref17_Has (.sl 1 (encD O)) (.str N[j]) = some (.bool (decide (N[j] ∈ O))) := hasR_is O (by omega) N[j]
    have ih := ord1_find O hO n hn s d (j + 1) (by omega)
    rw [ref17_Order.l1_eq, encD_len, decide_eq_true (by omega), ifT]
    simp only [someB]
    rw [ifT, idx_at (encD_at e1), str0]
    simp only [asS_]
    rw [hH]
    simp only [someB, asB_]
    by_cases hin : N[j] ∈ O
    · rw [decide_eq_true hin, ifT, w64_succ (by omega)]
      rcases ih with ih | ⟨h1, h2⟩
      · exact .inl ih
      · refine .inr ⟨fun p hp hpo => ?_, h2⟩
        rw [dropCons h1'] at hp
        rcases List.mem_cons.1 hp with rfl | hp
        · exact absurd hin hpo
        · exact h1 p hp hpo
    · rw [decide_eq_false hin, ifF, idx_at (encD_at e1), str0]
      simp only [asS_]
      obtain ⟨r, X, hT, hr, hm, hl⟩ := to17_is E N[j] hE
      rw [hT]
      simp only [someB]
      have hgo : asL 1 r (fun l17 => ref17_Order.l3 (.sl 1 (encD N)) (.sl 2 (encE E)) (.own 1 (encD O)) (.int .i64 (n : Int)) (.str s) (.bool false) (.int .i64 (j : Int)) (.bool true) (.sl 1 l17) (.int .i64 0)) =
          ref17_Order.l3 (.sl 1 (encD N)) (.sl 2 (encE E)) (.own 1 (encD O)) (.int .i64 (n : Int)) (.str s) (.bool false) (.int .i64 (j : Int)) (.bool true) (.sl 1 (encD X)) (.int .i64 0) := by
        rcases hr with rfl | rfl
        · rw [asL1_]
        · rw [asL1o]
      rw [hgo]
      have h3 := ord3_loop N E hN hE O X hO (by omega) (n : Int) s j h1' X.length 0 true (by omega)
      rw [e00] at h3
      rw [h3, List.drop_zero, Bool.true_and]
      by_cases hall : (X.all fun y => decide (y ∈ O)) = true
      · rw [if_pos hall, ord1_true N E hN hE O hO n hn]
        refine .inl ⟨N[j], List.getElem_mem h1', hin, fun y hy => ?_, rfl⟩
        rw [List.all_eq_true] at hall
        simpa using hall y ((hm y).2 hy)
      · rw [if_neg hall]
        rcases ih with ih | ⟨h1, h2⟩
        · exact .inl ih
        · refine .inr ⟨fun p hp hpo => ?_, h2⟩
          rw [dropCons h1'] at hp
          rcases List.mem_cons.1 hp with rfl | hp
          · have : ∃ y ∈ X, y ∉ O := by
              apply Classical.byContradiction
              intro hc
              apply hall
              rw [List.all_eq_true]
              intro y hy
              apply decide_eq_true
              apply Classical.byContradiction
              exact fun hn => hc ⟨y, hy, hn⟩
            obtain ⟨y, hy, hyo⟩ := this
            exact ⟨y, (hm y).1 hy, hyo⟩
          · exact h1 p hp hpo
theorem out_len {O : List Bs} (h : OutOK N E O) : O.length ≤ N.length := Go.Proofs.YtmdimhcjogjcgaaGreatDoor.Gr.len_sub h.nd h.sub
theorem ord2_loop (O : List Bs) (hO : O.length ≤ 1048576) : ∀ (d i : Nat), i + d = N.length → ref17_Order.l2 (.sl 1 (encD N)) (.own 1 (encD O)) (.own 1 (encD ((N.take i).filter fun x => decide (x ∉ O)))) (.int .i64 (i : Int)) = some (.tup [.own 1 (encD O), .own 1 (encD (N.filter fun x => decide (x ∉ O)))])
  | 0, i, h => by rw [ref17_Order.l2_eq, encD_len, decide_eq_false (by omega), ifF, List.take_of_length_le (by omega)]
  | d + 1, i, h => by
    have h1' : i < N.length := by omega
    have e1 : N[i]? = some N[i] := List.getElem?_eq_getElem h1'
    have hH : ref17_Has (.sl 1 (encD O)) (.str N[i]) = some (.bool (decide (N[i] ∈ O))) := hasR_is O (by omega) N[i]
    have ih := ord2_loop O hO d (i + 1) (by omega)
    have et : N.take (i + 1) = N.take i ++ [N[i]] := by rw [List.take_add_one, e1]; rfl
    have hle : ((N.take i).filter fun x => decide (x ∉ O)).length ≤ i := Nat.le_trans (List.length_filter_le _ _) (by simp; omega)
    rw [ref17_Order.l2_eq, encD_len, decide_eq_true (by omega), ifT, idx_at (encD_at e1), str0]
    simp only [asS_]
    rw [hH]
    simp only [someB, asB_]
    rw [et, List.filter_append] at ih
    by_cases hin : N[i] ∈ O
    · rw [decide_eq_true hin, Bool.not_true, ifF, w64_succ (by omega)]
      rw [List.filter_cons_of_neg (by simpa using hin), List.filter_nil, List.append_nil] at ih
      exact ih
    · rw [decide_eq_false hin, Bool.not_false, ifT, idx_at (encD_at e1), str0]
      simp only [asS_]
      rw [gOK (by rw [encD_len]; simp only [List.length_cons, List.length_nil]; omega), guT, encD_app, w64_succ (by omega)]
      rw [List.filter_cons_of_pos (by simpa using hin), List.filter_nil] at ih
      exact ih
theorem ord0_loop : ∀ (d n : Nat) (O : List Bs), n + d = N.length → OutOK N E O → (O.length = n ∨ Stuck N E O) → ∃ O', OutOK N E O' ∧ Stuck N E O' ∧ ref17_Order.l0 (.sl 1 (encD N)) (.sl 2 (encE E)) (.own 1 (encD O)) (.int .i64 (n : Int)) = some (.tup [.own 1 (encD O'), .own 1 (encD (N.filter fun x => decide (x ∉ O')))])
  | 0, n, O, h, hO, hs => by
    have hl := out_len N E hN hE hO
    refine ⟨O, hO, ?_, ?_⟩
    · rcases hs with hs | hs
      · intro p hp hpo
        exfalso
        have := Go.Proofs.YtmdimhcjogjcgaaGreatDoor.Gr.len_sub (l := p :: O) (m := N) (List.nodup_cons.2 ⟨hpo, hO.nd⟩) fun x hx => by
          rcases List.mem_cons.1 hx with rfl | hx
          · exact hp
          · exact hO.sub x hx
        simp at this; omega
      · exact hs
    · rw [ref17_Order.l0_eq, encD_len, decide_eq_false (by omega), ifF]
      have := ord2_loop N E hN hE O (by omega) N.length 0 (by omega)
      rw [e00] at this
      exact this
  | d + 1, n, O, h, hO, hs => by
    have hl := out_len N E hN hE hO
    rw [ref17_Order.l0_eq, encD_len, decide_eq_true (by omega), ifT]
    have := ord1_find N E hN hE O (by omega) n (by omega) [] N.length 0 (by omega)
    rw [e00] at this
    rcases this with ⟨p, hp, hpo, hpl, he⟩ | ⟨h1, he⟩
    · have hO' : OutOK N E (O ++ [p]) := by
        refine ⟨?_, fun x hx => ?_, fun i k hk y hy => ?_⟩
        · rw [List.nodup_append]
          exact ⟨hO.nd, by simp, fun a ha b hb e => by simp at hb; subst hb; subst e; exact hpo ha⟩
        · rcases List.mem_append.1 hx with hx | hx
          · exact hO.sub x hx
          · have e : x = p := by simpa using hx
            subst e; exact hp
        · rw [List.getElem?_append] at hk
          split at hk
          · rename_i hi
            rw [List.take_append_of_le_length (by omega)]
            exact hO.pre i k hk y hy
          · rename_i hi
            have hi2 : i = O.length := by
              have := (List.getElem?_eq_some_iff.1 hk).1
              simp at this; omega
            subst hi2
            simp at hk
            subst hk
            rw [List.take_append_of_le_length (Nat.le_refl _), List.take_length]
            exact hpl y hy
      have hs' : (O ++ [p]).length = n + 1 ∨ Stuck N E (O ++ [p]) := by
        rcases hs with hs | hs
        · exact .inl (by simp; omega)
        · obtain ⟨y, hy, hyo⟩ := hs p hp hpo
          exact absurd (hpl y hy) hyo
      obtain ⟨O', h1, h2, h3⟩ := ord0_loop d (n + 1) (O ++ [p]) (by omega) hO' hs'
      exact ⟨O', h1, h2, he.trans h3⟩
    · rw [List.drop_zero] at h1
      obtain ⟨O', h2, h3, h4⟩ := ord0_loop d (n + 1) O (by omega) hO (.inr h1)
      exact ⟨O', h2, h3, he.trans h4⟩
theorem order17_is : ∃ O, OutOK N E O ∧ Stuck N E O ∧ ref17_Order (.sl 1 (encD N)) (.sl 2 (encE E)) = some (.tup [.own 1 (encD O), .own 1 (encD (N.filter fun x => decide (x ∉ O)))]) := by
  obtain ⟨O, h1, h2, h3⟩ := ord0_loop N E hN hE N.length 0 [] (by omega) ⟨List.nodup_nil, by simp, fun i k hk => by simp at hk⟩ (.inl rfl)
  exact ⟨O, h1, h2, by rw [ref17_Order.f_eq]; exact h3⟩
end
end Go.Proofs.YtmdimhcjogjcgaaGreatDoor.Lat
namespace Go.Proofs.YtmdimhcjogjcgaaGreatDoor.Lat
open Go.Proofs.YtmdimhcjogjcgaaGreatDoor.Abs Go.Proofs.YtmdimhcjogjcgaaGreatDoor.Gr
/-! The same -/
/-- Small things. -/
structure SmTh (t : Th) : Prop where
  v : szV t.v ≤ 1073741824
  d : t.d.length ≤ 1000
  n : t.n.length ≤ 1000
def sameTh (t u : Th) : Bool := decide (t.n = u.n) && decide (cmpV t.v u.v = 0) && decide (t.d = u.d)
def allSame : List Th → List Th → Bool
  | t :: a, u :: b => sameTh t u && allSame a b
  | _, _ => true
/-! Few -/
theorem few1_loop (ts : List Th) (i : Nat) (t : Th) (ht : ts[i]? = some t) (hd : t.d.length ≤ 20) (r : Option AV) (hr : law30_Few.l0 (.sl 3 (encTs ts)) (.int .i64 ((i + 1 : Nat) : Int)) = r) (hi : i ≤ 1000) : ∀ (d j : Nat), j + d = t.d.length → law30_Few.l1 (.sl 3 (encTs ts)) (.int .i64 (i : Int)) (.int .i64 (j : Int)) = some (.bool false) ∨ law30_Few.l1 (.sl 3 (encTs ts)) (.int .i64 (i : Int)) (.int .i64 (j : Int)) = r
  | 0, j, h => by
    right
    rw [law30_Few.l1_eq, idx_at (encTs_at ht), th2, asL1_, encD_len, decide_eq_false (by omega), ifF, w64_succ (by omega), hr]
  | d + 1, j, h => by
    have h1 : j < t.d.length := by omega
    have ih := few1_loop ts i t ht hd r hr hi d (j + 1) (by omega)
    rw [law30_Few.l1_eq, idx_at (encTs_at ht), th2, asL1_, encD_len, decide_eq_true (by omega), ifT, idx_at (encTs_at ht), th2, asL1_, idx_at (encD_at (List.getElem?_eq_getElem h1)), str0]
    simp only [asS_]
    by_cases hc : (100 : Int) < (t.d[j].length : Int)
    · rw [decide_eq_true hc, ifT]; exact .inl rfl
    · rw [decide_eq_false hc, ifF, w64_succ (by omega)]; exact ih
theorem few0_loop (ts : List Th) (hl : ts.length ≤ 12) : ∀ (d i : Nat), i + d = ts.length → ∃ b : Bool, law30_Few.l0 (.sl 3 (encTs ts)) (.int .i64 (i : Int)) = some (.bool b) ∧ (b = true → ∀ t ∈ ts.drop i, szV t.v ≤ 1073741824 ∧ t.d.length ≤ 20 ∧ t.n.length ≤ 100)
  | 0, i, h => ⟨true, by rw [law30_Few.l0_eq, encTs_len, decide_eq_false (by omega), ifF], fun _ => by rw [dropNil (by omega)]; simp⟩
  | d + 1, i, h => by
    have h1 : i < ts.length := by omega
    have e1 : ts[i]? = some ts[i] := List.getElem?_eq_getElem h1
    obtain ⟨b, hb, hq⟩ := few0_loop ts hl d (i + 1) (by omega)
    obtain ⟨b2, hb2, hz⟩ := few_is ts[i].v
    rw [law30_Few.l0_eq, encTs_len, decide_eq_true (by omega), ifT, idx_at (encTs_at e1), th0]
    simp only [asS_, idx_at (encTs_at e1), th1, th2, asL1_, encD_len, hb2, someB, asB_, orK]
    by_cases hn : (100 : Int) < (ts[i].n.length : Int)
    · rw [decide_eq_true hn]
      exact ⟨false, by simp [ifT, someB], fun c => by cases c⟩
    · rw [decide_eq_false hn, Bool.false_or]
      by_cases hd : (20 : Int) < (ts[i].d.length : Int)
      · rw [decide_eq_true hd]
        exact ⟨false, by simp [ifT, someB], fun c => by cases c⟩
      · rw [decide_eq_false hd, Bool.false_or]
        cases b2 with
        | false => exact ⟨false, rfl, fun c => by cases c⟩
        | true =>
          rw [Bool.not_true, ifF]
          have := few1_loop ts i ts[i] e1 (by omega) _ hb (by omega) ts[i].d.length 0 (by omega)
          rw [e00] at this
          rcases this with h0 | h0
          · exact ⟨false, h0, fun c => by cases c⟩
          · refine ⟨b, h0, fun hbt t ht => ?_⟩
            rw [dropCons h1] at ht
            rcases List.mem_cons.1 ht with rfl | ht
            · exact ⟨hz rfl, by omega, by omega⟩
            · exact hq hbt t ht
theorem fewT_is (ts : List Th) : ∃ b : Bool, law30_Few (.sl 3 (encTs ts)) = some (.bool b) ∧ (b = true → ts.length ≤ 12 ∧ ∀ t ∈ ts, SmTh t) := by
  rw [law30_Few.f_eq, encTs_len]
  by_cases h : (12 : Int) < (ts.length : Int)
  · rw [decide_eq_true h, ifT]; exact ⟨false, rfl, fun c => by cases c⟩
  · rw [decide_eq_false h, ifF]
    obtain ⟨b, hb, hq⟩ := few0_loop ts (by omega) ts.length 0 (by omega)
    rw [e00] at hb
    exact ⟨b, hb, fun hbt => ⟨by omega, fun t ht => by
      have := hq hbt t (by rw [List.drop_zero]; exact ht)
      exact ⟨this.1, by omega, by omega⟩⟩⟩
def nmsT (ts : List Th) : List Bs := ts.map (·.n)
def tds (ts : List Th) : List Td := ts.map fun t => (t.n, t.d)
theorem nms_tds (ts : List Th) : nms (tds ts) = nmsT ts := by simp [nms, tds, nmsT]
theorem findR_nm (ts : List Th) (hl : ts.length ≤ 1073741824) (s : Bs) : ref30_Find (.sl 3 (encTs ts)) (.str s) = some (.int .i64 (ixB (nmsT ts) s 0)) := findR30_is ts hl s
/-! Names -/
theorem names30_loop (ts : List Th) (hl : ts.length ≤ 1000) : ∀ (d i : Nat), i + d = ts.length → ref30_Names.l0 (.sl 3 (encTs ts)) (.own 1 (encD (nmsT (ts.take i)))) (.int .i64 (i : Int)) = some (.own 1 (encD (nmsT ts)))
  | 0, i, h => by rw [ref30_Names.l0_eq, encTs_len, decide_eq_false (by omega), ifF, List.take_of_length_le (by omega)]
  | d + 1, i, h => by
    have h1 : i < ts.length := by omega
    have e1 : ts[i]? = some ts[i] := List.getElem?_eq_getElem h1
    have ih := names30_loop ts hl d (i + 1) (by omega)
    have et : nmsT (ts.take (i + 1)) = nmsT (ts.take i) ++ [ts[i].n] := by rw [List.take_add_one, e1, nmsT, List.map_append]; rfl
    rw [ref30_Names.l0_eq, encTs_len, decide_eq_true (by omega), ifT, idx_at (encTs_at e1), th0]
    simp only [asS_]
    rw [gOK (by rw [encD_len]; simp [nmsT]; omega), guT, encD_app, w64_succ (by omega), ← et, ih]
theorem names30_is (ts : List Th) (hl : ts.length ≤ 1000) : ref30_Names (.sl 3 (encTs ts)) = some (.own 1 (encD (nmsT ts))) := by
  rw [ref30_Names.f_eq]
  exact names30_loop ts hl ts.length 0 (by omega)
/-! Lines -/
def linesOf (N : List Bs) (ts : List Th) : List (Bs × Bs) := ts.flatMap fun t => (t.d.filter fun s => decide (s ∈ N)).map fun s => (t.n, s)
theorem encE_app (E : List (Bs × Bs)) (a b : Bs) : encE E ++ [[AV.str a, .str b]] = encE (E ++ [(a, b)]) := by simp [encE]
theorem lines1_loop (ts : List Th) (hl : ts.length ≤ 1000) (i : Nat) (t : Th) (ht : ts[i]? = some t) (hd : t.d.length ≤ 1000) : ∀ (d j : Nat) (E : List (Bs × Bs)), j + d = t.d.length → E.length ≤ 1000 * i + j →
    ref30_Lines.l1 (.sl 3 (encTs ts)) (.own 2 (encE E)) (.int .i64 (i : Int)) (.int .i64 (j : Int)) = ref30_Lines.l0 (.sl 3 (encTs ts)) (.own 2 (encE (E ++ ((t.d.drop j).filter fun s => decide (s ∈ nmsT ts)).map fun s => (t.n, s)))) (.int .i64 ((i + 1 : Nat) : Int))
  | 0, j, E, h, hE => by
    have hi := (List.getElem?_eq_some_iff.1 ht).1
    rw [ref30_Lines.l1_eq, idx_at (encTs_at ht), th2, asL1_, encD_len, decide_eq_false (by omega), ifF, dropNil (by omega), w64_succ (by omega)]
    simp
  | d + 1, j, E, h, hE => by
    have hi := (List.getElem?_eq_some_iff.1 ht).1
    have h1 : j < t.d.length := by omega
    have e1 : t.d[j]? = some t.d[j] := List.getElem?_eq_getElem h1
    rw [ref30_Lines.l1_eq, idx_at (encTs_at ht), th2, asL1_, encD_len, decide_eq_true (by omega), ifT, idx_at (encTs_at ht), th2, asL1_, idx_at (encD_at e1), str0]
    simp only [asS_, findR_nm ts (by omega), someB, asI_]
    rw [dropCons h1]
    by_cases hm : t.d[j] ∈ nmsT ts
    · have := lines1_loop ts hl i t ht hd d (j + 1) (E ++ [(t.n, t.d[j])]) (by omega) (by simp; omega)
      rw [decide_eq_true ((ixB_pos _ _ _).2 hm), ifT, idx_at (encTs_at ht), th0]
      simp only [asS_]
      rw [idx_at (encTs_at ht), th2, asL1_, idx_at (encD_at e1), str0]
      simp only [asS_]
      rw [gOK (by rw [encE_len]; simp only [List.length_cons, List.length_nil]; omega), guT, encE_app, w64_succ (by omega), this, List.filter_cons_of_pos (by simpa using hm)]
      simp
    · have := lines1_loop ts hl i t ht hd d (j + 1) E (by omega) (by omega)
      rw [decide_eq_false (fun c => hm ((ixB_pos _ _ _).1 c)), ifF, w64_succ (by omega), this, List.filter_cons_of_neg (by simpa using hm)]
theorem linesOf_len (N : List Bs) : ∀ ts : List Th, (∀ t ∈ ts, t.d.length ≤ 1000) → (linesOf N ts).length ≤ 1000 * ts.length
  | [], _ => by simp [linesOf]
  | t :: ts, h => by
    have ih := linesOf_len N ts fun u hu => h u (List.mem_cons_of_mem _ hu)
    have ht := h t (List.mem_cons_self ..)
    have hf : (t.d.filter fun s => decide (s ∈ N)).length ≤ t.d.length := List.length_filter_le _ _
    have e : linesOf N (t :: ts) = ((t.d.filter fun s => decide (s ∈ N)).map fun s => (t.n, s)) ++ linesOf N ts := by simp [linesOf]
    rw [e, List.length_append, List.length_map, List.length_cons]
    omega
theorem lines0_loop (ts : List Th) (hl : ts.length ≤ 1000) (hd : ∀ t ∈ ts, t.d.length ≤ 1000) : ∀ (d i : Nat), i + d = ts.length → ref30_Lines.l0 (.sl 3 (encTs ts)) (.own 2 (encE (linesOf (nmsT ts) (ts.take i)))) (.int .i64 (i : Int)) = some (.own 2 (encE (linesOf (nmsT ts) ts)))
  | 0, i, h => by rw [ref30_Lines.l0_eq, encTs_len, decide_eq_false (by omega), ifF, List.take_of_length_le (by omega)]
  | d + 1, i, h => by
    have h1 : i < ts.length := by omega
    have e1 : ts[i]? = some ts[i] := List.getElem?_eq_getElem h1
    have ih := lines0_loop ts hl hd d (i + 1) (by omega)
    have hE := linesOf_len (nmsT ts) (ts.take i) fun t ht => hd t (List.mem_of_mem_take ht)
    have et : linesOf (nmsT ts) (ts.take (i + 1)) = linesOf (nmsT ts) (ts.take i) ++ ((ts[i].d.drop 0).filter fun s => decide (s ∈ nmsT ts)).map fun s => (ts[i].n, s) := by
      rw [List.take_add_one, e1, linesOf, List.flatMap_append]; simp [linesOf]
    have := lines1_loop ts hl i ts[i] e1 (hd _ (List.getElem_mem h1)) ts[i].d.length 0 (linesOf (nmsT ts) (ts.take i)) (by omega) (by simp at hE; omega)
    rw [e00] at this
    rw [ref30_Lines.l0_eq, encTs_len, decide_eq_true (by omega), ifT, this, ← et, ih]
theorem lines30_is (ts : List Th) (hl : ts.length ≤ 1000) (hd : ∀ t ∈ ts, t.d.length ≤ 1000) : ref30_Lines (.sl 3 (encTs ts)) = some (.own 2 (encE (linesOf (nmsT ts) ts))) := by
  rw [ref30_Lines.f_eq]
  exact lines0_loop ts hl hd ts.length 0 (by omega)
theorem mem_lines {N : List Bs} {ts : List Th} {a b : Bs} : (a, b) ∈ linesOf N ts ↔ b ∈ N ∧ ∃ ds, (a, ds) ∈ tds ts ∧ b ∈ ds := by
  unfold linesOf tds
  simp only [List.mem_flatMap, List.mem_map, List.mem_filter, decide_eq_true_eq, Prod.mk.injEq]
  constructor
  · rintro ⟨t, ht, s, ⟨hs, hN⟩, rfl, rfl⟩
    exact ⟨hN, t.d, ⟨t, ht, rfl, rfl⟩, hs⟩
  · rintro ⟨hN, ds, ⟨t, ht, rfl, rfl⟩, hb⟩
    exact ⟨t, ht, b, ⟨hb, hN⟩, rfl, rfl⟩
/-! The ring -/
theorem ring_out {ts : List Th} {O : List Bs} (h : OutOK (nmsT ts) (linesOf (nmsT ts) ts) O) (hs : Stuck (nmsT ts) (linesOf (nmsT ts) ts) O) : Ring (tds ts) ↔ ((nmsT ts).filter fun x => decide (x ∉ O)).length ≠ 0 := by
  constructor
  · rintro ⟨S, ⟨k, hk⟩, hS⟩ h0
    have hall : ∀ x ∈ nmsT ts, x ∈ O := fun x hx => Classical.byContradiction fun hxo => by
      have : x ∈ (nmsT ts).filter fun x => decide (x ∉ O) := List.mem_filter.2 ⟨hx, by simpa using hxo⟩
      rw [List.eq_nil_of_length_eq_zero h0] at this
      cases this
    have key : ∀ (i : Nat) (k : Bs), O[i]? = some k → ¬ S k := by
      intro i
      induction i using Nat.strongRecOn with
      | ind i ih =>
        intro k hi hs'
        obtain ⟨_, ds, h1, d, h2, h3, h4⟩ := hS k hs'
        rw [nms_tds] at h3
        have := h.pre i k hi d (mem_lines.2 ⟨h3, ds, h1, h2⟩)
        obtain ⟨j, hj, he⟩ := List.getElem_of_mem this
        have hji : j < i := by have := hj; simp at this; omega
        have hjo : O[j]? = some d := by
          have := List.getElem?_eq_getElem hj
          rw [he, List.getElem?_take, if_pos hji] at this
          exact this
        exact ih j hji d hjo h4
    have hkn := (hS k hk).1
    rw [nms_tds] at hkn
    obtain ⟨i, hi, he⟩ := List.getElem_of_mem (hall k hkn)
    exact key i k (by rw [List.getElem?_eq_getElem hi, he]) hk
  · intro h0
    have : ∃ x, x ∈ (nmsT ts).filter fun x => decide (x ∉ O) := by
      cases hf : (nmsT ts).filter fun x => decide (x ∉ O) with
      | nil => rw [hf] at h0; exact absurd rfl h0
      | cons x r => exact ⟨x, List.mem_cons_self ..⟩
    obtain ⟨x, hx⟩ := this
    have hx' := List.mem_filter.1 hx
    refine ⟨fun p => p ∈ nmsT ts ∧ p ∉ O, ⟨x, hx'.1, by simpa using hx'.2⟩, fun k hk => ⟨by rw [nms_tds]; exact hk.1, ?_⟩⟩
    obtain ⟨y, hy, hyo⟩ := hs k hk.1 hk.2
    obtain ⟨h1, ds, h2, h3⟩ := mem_lines.1 hy
    exact ⟨ds, h2, y, h3, by rw [nms_tds]; exact h1, h1, hyo⟩
open Classical in
theorem ringB_true {ts : List Td} : ringB ts = true ↔ Ring ts := by unfold ringB; exact decide_eq_true_iff
/-! One thing -/
/-- A right value of one struct. -/
def kOne (v : List Tm) : Bool := okV Rn v && (match v with | [t] => decide (t.k = 4) | _ => false)
theorem one11_is (v : List Tm) (hv : szV v ≤ 1073741824) : ∃ (k e : Int) (c : List AV), ref11_One (.agg 1 [.sl 8 (encV v)]) = some (.tup [.agg 8 (.int .i64 k :: c), .int .i64 e]) ∧ (!(!decide (e = 0) || !decide (k = 4))) = kOne v := by
  rw [ref11_One.f_eq, right9_is v hv]
  simp only [someB, asB_]
  unfold kOne
  cases hok : okV Rn v with
  | false => exact ⟨0, 1, _, rfl, rfl⟩
  | true =>
    rw [Bool.not_true, ifF, Bool.true_and]
    simp only [v0, asL8, encV_len]
    match v with
    | [] => exact ⟨0, 31, _, rfl, rfl⟩
    | t :: u :: r =>
      rw [decide_eq_false (by simp <;> omega), ifF, decide_eq_true (by simp <;> omega)]
      exact ⟨0, 28, _, rfl, rfl⟩
    | [t] =>
      have e1 : decide ((([t] : List Tm).length : Int) = 0) = false := by simp
      have e2 : decide ((1 : Int) < (([t] : List Tm).length : Int)) = false := by simp
      rw [e1, ifF, e2, ifF]
      simp only [idxV0, g0, asI_, someB]
      by_cases h5 : t.k = 5
      · rw [decide_eq_true h5, ifT]
        refine ⟨0, 28, _, rfl, ?_⟩
        simp [h5]
      · rw [decide_eq_false h5, ifF]
        obtain ⟨k, lo, hi, s, a, m, o, fs⟩ := t
        refine ⟨k, 0, _, rfl, ?_⟩
        show (!(!true || !decide (k = 4))) = decide (k = 4)
        cases decide (k = 4) <;> rfl
def gR (t : Th) : Bool := kOne t.v && (okV Rn t.v && seL false t.v) && risD t.d && !decide (t.n ∈ t.d)
theorem right30_loop (ts : List Th) (hl : ts.length ≤ 256) (hs : ∀ t ∈ ts, SmTh t) : ∀ (d i : Nat), i + d = ts.length → ref30_Right.l0 (.sl 3 (encTs ts)) (.int .i64 (i : Int)) = some (.bool ((ts.drop i).all gR && risD (nmsT ts) && !ringB (tds ts)))
  | 0, i, h => by
    have hr := risR_is (nmsT ts) (by simp [nmsT]; omega)
    rw [ref30_Right.l0_eq, encTs_len, decide_eq_false (by omega), ifF, decide_eq_false (by omega), ifF, names30_is ts (by omega)]
    simp only [someB, asL1o, hr, asB_]
    rw [dropNil (by omega), List.all_nil, Bool.true_and]
    cases risD (nmsT ts) with
    | false => rfl
    | true =>
      rw [Bool.not_true, ifF, lines30_is ts (by omega) (fun t ht => (hs t ht).d)]
      have hE := linesOf_len (nmsT ts) ts (fun t ht => (hs t ht).d)
      obtain ⟨O, h1, h2, h3⟩ := order17_is (nmsT ts) (linesOf (nmsT ts) ts) (by simp [nmsT]; omega) (by omega)
      simp only [someB]
      rw [show ∀ (k : List (List AV) → Option AV), asL 2 (.own 2 (encE (linesOf (nmsT ts) ts))) k = k (encE (linesOf (nmsT ts) ts)) from fun k => rfl, h3]
      simp only [someB, asT2_, asL1o, encD_len, Bool.true_and]
      congr 2
      have hro := ring_out h1 h2
      rw [← ringB_true] at hro
      cases hR : ringB (tds ts) with
      | true =>
        have := hro.1 hR
        rw [Bool.not_true]
        exact decide_eq_false (by omega)
      | false =>
        rw [Bool.not_false]
        refine decide_eq_true ?_
        exact Classical.byContradiction fun hc => Bool.false_ne_true (hR.symm.trans (hro.2 fun h0 => hc (by omega)))
  | d + 1, i, h => by
    have h1 : i < ts.length := by omega
    have e1 : ts[i]? = some ts[i] := List.getElem?_eq_getElem h1
    have hS := hs _ (List.getElem_mem h1)
    have ih := right30_loop ts hl hs d (i + 1) (by omega)
    obtain ⟨k, e, c, hO, hk⟩ := one11_is ts[i].v hS.v
    have hset := settled11_is ts[i].v hS.v
    have hris := risR_is ts[i].d (by have := hS.d; omega)
    have hhas := hasR_is ts[i].d (by have := hS.d; omega) ts[i].n
    rw [ref30_Right.l0_eq, encTs_len, decide_eq_true (by omega), ifT, idx_at (encTs_at e1), th1]
    simp only [frz, hO, someB, asT2_]
    rw [show ∀ (q : List AV → Option AV), asC 8 (.agg 8 (.int .i64 k :: c)) q = q (.int .i64 k :: c) from fun q => rfl]
    simp only [asI_, getC0, th0, th1, th2, frz, hset, someB, asB_, asL1_, hris, asS_, hhas, orK]
    rw [dropCons h1, List.all_cons]
    have hg : gR ts[i] = (kOne ts[i].v && (okV Rn ts[i].v && seL false ts[i].v) && risD ts[i].d && !decide (ts[i].n ∈ ts[i].d)) := rfl
    rw [hg, ← hk]
    cases (!decide (e = 0) || !decide (k = 4)) with
    | true => simp [ifT, someB]
    | false =>
      cases hq : (okV Rn ts[i].v && seL false ts[i].v) with
      | false => simp [ifT, ifF, orK, someB]
      | true =>
        cases risD ts[i].d with
        | false => simp [ifT, ifF, orK, someB]
        | true =>
          cases decide (ts[i].n ∈ ts[i].d) with
          | true => simp [ifT, ifF, orK, someB]
          | false =>
            have : (ifB false (some (AV.bool false)) (ref30_Right.l0 (.sl 3 (encTs ts)) (.int .i64 (w64 ((i : Int) + 1))))) = some (.bool ((ts.drop (i + 1)).all gR && risD (nmsT ts) && !ringB (tds ts))) := by
              rw [ifF, w64_succ (by omega), ih]
            simpa [ifT, ifF, orK, someB] using this
theorem right30_is (ts : List Th) (hl : ts.length ≤ 256) (hs : ∀ t ∈ ts, SmTh t) : ref30_Right (.sl 3 (encTs ts)) = some (.bool (ts.all gR && risD (nmsT ts) && !ringB (tds ts))) := by
  have := right30_loop ts hl hs ts.length 0 (by omega)
  rw [e00, List.drop_zero] at this
  rw [ref30_Right.f_eq, this]
end Go.Proofs.YtmdimhcjogjcgaaGreatDoor.Lat
