/- The document's order of points. -/
import Derived.Test.YtffojfcinkihnaaGreatDoorLD
import Derived.Test.YtffojfcinkihnaaGreatDoorGB
set_option linter.unusedVariables false
set_option linter.unusedSimpArgs false
set_option linter.unusedSectionVars false
set_option linter.deprecated false
set_option linter.unnecessarySimpa false
namespace Go.Proofs.YtffojfcinkihnaaGreatDoor.Lat
open Go.Proofs.YtffojfcinkihnaaGreatDoor.Abs
theorem asL1o {α : Type} (l : List (List AV)) (k : List (List AV) → Option α) : asL 1 (.own 1 l) k = k l := rfl
section
variable (N : List Bs) (E : List (Bs × Bs)) (hN : N.length ≤ 1048576) (hE : E.length ≤ 1048576)
include hN hE
/-- What is out so far. -/
structure OutOK (O : List Bs) : Prop where
  nd : O.Nodup
  sub : ∀ x ∈ O, x ∈ N
  pre : ∀ (i : Nat) (k : Bs), O[i]? = some k → ∀ y, (k, y) ∈ E → y ∈ O.take i
def Stuck (O : List Bs) : Prop := ∀ p ∈ N, p ∉ O → ∃ y, (p, y) ∈ E ∧ y ∉ O
theorem ord3_loop (O L : List Bs) (hO : O.length ≤ 1048576) (hL : L.length ≤ 1048576) (n : Int) (s : Bs) (j : Nat) (hj : j < N.length) : ∀ (d i : Nat) (b : Bool), i + d = L.length →
    ref17_Order.l3 (.sl 1 (encD N)) (.sl 2 (encE E)) (.own 1 (encD O)) (.int .i64 n) (.str s) (.bool false) (.int .i64 (j : Int)) (.bool b) (.sl 1 (encD L)) (.int .i64 (i : Int)) =
      if (b && (L.drop i).all fun y => decide (y ∈ O)) = true then ref17_Order.l1 (.sl 1 (encD N)) (.sl 2 (encE E)) (.own 1 (encD O)) (.int .i64 n) (.str N[j]) (.bool true) (.int .i64 ((j + 1 : Nat) : Int))
      else ref17_Order.l1 (.sl 1 (encD N)) (.sl 2 (encE E)) (.own 1 (encD O)) (.int .i64 n) (.str s) (.bool false) (.int .i64 ((j + 1 : Nat) : Int))
  | 0, i, b, h => by
    rw [ref17_Order.l3_eq2, encD_len, decide_eq_false (by omega), ifF, dropNil (by omega), idx_at (encD_at (List.getElem?_eq_getElem hj)), str0, w64_succ (by omega)]
    simp only [asS_]
    cases b <;> rfl
  | d + 1, i, b, h => by
    have h1' : i < L.length := by omega
    have e1 : L[i]? = some L[i] := List.getElem?_eq_getElem h1'
    rw [ref17_Order.l3_eq2, encD_len, decide_eq_true (by omega), ifT, idx_at (encD_at e1), str0]
    simp only [asS_]
    have := hasR_is O (by omega) L[i]
    have hH : ref17_Has (.sl 1 (encD O)) (.str L[i]) = some (.bool (decide (L[i] ∈ O))) := this
    rw [hH]
    simp only [someB, asB_]
    have ha : ifB b (some (decide (L[i] ∈ O))) (some false) = some (b && decide (L[i] ∈ O)) := by cases b <;> rfl
    rw [ha]
    simp only [someB]
    rw [w64_succ (by omega), ord3_loop O L hO hL n s j hj d (i + 1) _ (by omega), dropCons h1', List.all_cons, Bool.and_assoc]
theorem ord1_true (O : List Bs) (hO : O.length ≤ 1048576) (n : Nat) (hn : n ≤ 1048576) (s : Bs) (j : Int) : ref17_Order.l1 (.sl 1 (encD N)) (.sl 2 (encE E)) (.own 1 (encD O)) (.int .i64 (n : Int)) (.str s) (.bool true) (.int .i64 j) = ref17_Order.l0 (.sl 1 (encD N)) (.sl 2 (encE E)) (.own 1 (encD (O ++ [s]))) (.int .i64 ((n + 1 : Nat) : Int)) := by
  rw [ref17_Order.l1_eq2]
  have : ∀ c : Bool, ifB c (some false) (some false) = some false := fun c => by cases c <;> rfl
  rw [this]
  simp only [someB]
  rw [ifF, gOK (by rw [encD_len]; simp; omega), guT, encD_app, w64_succ (by omega)]
theorem ord1_find (O : List Bs) (hO : O.length ≤ 1048576) (n : Nat) (hn : n ≤ 1048576) (s : Bs) : ∀ (d j : Nat), j + d = N.length →
    (∃ p ∈ N, p ∉ O ∧ (∀ y, (p, y) ∈ E → y ∈ O) ∧ ref17_Order.l1 (.sl 1 (encD N)) (.sl 2 (encE E)) (.own 1 (encD O)) (.int .i64 (n : Int)) (.str s) (.bool false) (.int .i64 (j : Int)) = ref17_Order.l0 (.sl 1 (encD N)) (.sl 2 (encE E)) (.own 1 (encD (O ++ [p]))) (.int .i64 ((n + 1 : Nat) : Int))) ∨
    ((∀ p ∈ N.drop j, p ∉ O → ∃ y, (p, y) ∈ E ∧ y ∉ O) ∧ ref17_Order.l1 (.sl 1 (encD N)) (.sl 2 (encE E)) (.own 1 (encD O)) (.int .i64 (n : Int)) (.str s) (.bool false) (.int .i64 (j : Int)) = ref17_Order.l0 (.sl 1 (encD N)) (.sl 2 (encE E)) (.own 1 (encD O)) (.int .i64 ((n + 1 : Nat) : Int)))
  | 0, j, h => by
    refine .inr ⟨by rw [dropNil (by omega)]; simp, ?_⟩
    rw [ref17_Order.l1_eq, encD_len, decide_eq_false (by omega), ifF]
    simp only [someB]
    rw [ifF, w64_succ (by omega)]
  | d + 1, j, h => by
    have h1' : j < N.length := by omega
    have e1 : N[j]? = some N[j] := List.getElem?_eq_getElem h1'
    have hH : ref17_Has (.sl 1 (encD O)) (.str N[j]) = some (.bool (decide (N[j] ∈ O))) := hasR_is O (by omega) N[j]
    have ih := ord1_find O hO n hn s d (j + 1) (by omega)
    rw [ref17_Order.l1_eq, encD_len, decide_eq_true (by omega), ifT]
    simp only [someB]
    rw [ifT, idx_at (encD_at e1), str0]
    simp only [asS_]
    rw [hH]
    simp only [someB, asB_]
    by_cases hin : N[j] ∈ O
    · rw [decide_eq_true hin, ifT, w64_succ (by omega)]
      rcases ih with ih | ⟨h1, h2⟩
      · exact .inl ih
      · refine .inr ⟨fun p hp hpo => ?_, h2⟩
        rw [dropCons h1'] at hp
        rcases List.mem_cons.1 hp with rfl | hp
        · exact absurd hin hpo
        · exact h1 p hp hpo
    · rw [decide_eq_false hin, ifF, idx_at (encD_at e1), str0]
      simp only [asS_]
      obtain ⟨r, X, hT, hr, hm, hl⟩ := to17_is E N[j] hE
      rw [hT]
      simp only [someB]
      have hgo : asL 1 r (fun l17 => ref17_Order.l3 (.sl 1 (encD N)) (.sl 2 (encE E)) (.own 1 (encD O)) (.int .i64 (n : Int)) (.str s) (.bool false) (.int .i64 (j : Int)) (.bool true) (.sl 1 l17) (.int .i64 0)) =
          ref17_Order.l3 (.sl 1 (encD N)) (.sl 2 (encE E)) (.own 1 (encD O)) (.int .i64 (n : Int)) (.str s) (.bool false) (.int .i64 (j : Int)) (.bool true) (.sl 1 (encD X)) (.int .i64 0) := by
        rcases hr with rfl | rfl
        · rw [asL1_]
        · rw [asL1o]
      rw [hgo]
      have h3 := ord3_loop N E hN hE O X hO (by omega) (n : Int) s j h1' X.length 0 true (by omega)
      rw [e00] at h3
      rw [h3, List.drop_zero, Bool.true_and]
      by_cases hall : (X.all fun y => decide (y ∈ O)) = true
      · rw [if_pos hall, ord1_true N E hN hE O hO n hn]
        refine .inl ⟨N[j], List.getElem_mem h1', hin, fun y hy => ?_, rfl⟩
        rw [List.all_eq_true] at hall
        simpa using hall y ((hm y).2 hy)
      · rw [if_neg hall]
        rcases ih with ih | ⟨h1, h2⟩
        · exact .inl ih
        · refine .inr ⟨fun p hp hpo => ?_, h2⟩
          rw [dropCons h1'] at hp
          rcases List.mem_cons.1 hp with rfl | hp
          · have : ∃ y ∈ X, y ∉ O := by
              apply Classical.byContradiction
              intro hc
              apply hall
              rw [List.all_eq_true]
              intro y hy
              apply decide_eq_true
              apply Classical.byContradiction
              exact fun hn => hc ⟨y, hy, hn⟩
            obtain ⟨y, hy, hyo⟩ := this
            exact ⟨y, (hm y).1 hy, hyo⟩
          · exact h1 p hp hpo
theorem out_len {O : List Bs} (h : OutOK N E O) : O.length ≤ N.length := Go.Proofs.YtffojfcinkihnaaGreatDoor.Gr.len_sub h.nd h.sub
theorem ord2_loop (O : List Bs) (hO : O.length ≤ 1048576) : ∀ (d i : Nat), i + d = N.length → ref17_Order.l2 (.sl 1 (encD N)) (.own 1 (encD O)) (.own 1 (encD ((N.take i).filter fun x => decide (x ∉ O)))) (.int .i64 (i : Int)) = some (.tup [.own 1 (encD O), .own 1 (encD (N.filter fun x => decide (x ∉ O)))])
  | 0, i, h => by rw [ref17_Order.l2_eq, encD_len, decide_eq_false (by omega), ifF, List.take_of_length_le (by omega)]
  | d + 1, i, h => by
    have h1' : i < N.length := by omega
    have e1 : N[i]? = some N[i] := List.getElem?_eq_getElem h1'
    have hH : ref17_Has (.sl 1 (encD O)) (.str N[i]) = some (.bool (decide (N[i] ∈ O))) := hasR_is O (by omega) N[i]
    have ih := ord2_loop O hO d (i + 1) (by omega)
    have et : N.take (i + 1) = N.take i ++ [N[i]] := by rw [List.take_add_one, e1]; rfl
    have hle : ((N.take i).filter fun x => decide (x ∉ O)).length ≤ i := Nat.le_trans (List.length_filter_le _ _) (by simp; omega)
    rw [ref17_Order.l2_eq, encD_len, decide_eq_true (by omega), ifT, idx_at (encD_at e1), str0]
    simp only [asS_]
    rw [hH]
    simp only [someB, asB_]
    rw [et, List.filter_append] at ih
    by_cases hin : N[i] ∈ O
    · rw [decide_eq_true hin, Bool.not_true, ifF, w64_succ (by omega)]
      rw [List.filter_cons_of_neg (by simpa using hin), List.filter_nil, List.append_nil] at ih
      exact ih
    · rw [decide_eq_false hin, Bool.not_false, ifT, idx_at (encD_at e1), str0]
      simp only [asS_]
      rw [gOK (by rw [encD_len]; simp only [List.length_cons, List.length_nil]; omega), guT, encD_app, w64_succ (by omega)]
      rw [List.filter_cons_of_pos (by simpa using hin), List.filter_nil] at ih
      exact ih
theorem ord0_loop : ∀ (d n : Nat) (O : List Bs), n + d = N.length → OutOK N E O → (O.length = n ∨ Stuck N E O) → ∃ O', OutOK N E O' ∧ Stuck N E O' ∧ ref17_Order.l0 (.sl 1 (encD N)) (.sl 2 (encE E)) (.own 1 (encD O)) (.int .i64 (n : Int)) = some (.tup [.own 1 (encD O'), .own 1 (encD (N.filter fun x => decide (x ∉ O')))])
  | 0, n, O, h, hO, hs => by
    have hl := out_len N E hN hE hO
    refine ⟨O, hO, ?_, ?_⟩
    · rcases hs with hs | hs
      · intro p hp hpo
        exfalso
        have := Go.Proofs.YtffojfcinkihnaaGreatDoor.Gr.len_sub (l := p :: O) (m := N) (List.nodup_cons.2 ⟨hpo, hO.nd⟩) fun x hx => by
          rcases List.mem_cons.1 hx with rfl | hx
          · exact hp
          · exact hO.sub x hx
        simp at this; omega
      · exact hs
    · rw [ref17_Order.l0_eq, encD_len, decide_eq_false (by omega), ifF]
      have := ord2_loop N E hN hE O (by omega) N.length 0 (by omega)
      rw [e00] at this
      exact this
  | d + 1, n, O, h, hO, hs => by
    have hl := out_len N E hN hE hO
    rw [ref17_Order.l0_eq, encD_len, decide_eq_true (by omega), ifT]
    have := ord1_find N E hN hE O (by omega) n (by omega) [] N.length 0 (by omega)
    rw [e00] at this
    rcases this with ⟨p, hp, hpo, hpl, he⟩ | ⟨h1, he⟩
    · have hO' : OutOK N E (O ++ [p]) := by
        refine ⟨?_, fun x hx => ?_, fun i k hk y hy => ?_⟩
        · rw [List.nodup_append]
          exact ⟨hO.nd, by simp, fun a ha b hb e => by simp at hb; subst hb; subst e; exact hpo ha⟩
        · rcases List.mem_append.1 hx with hx | hx
          · exact hO.sub x hx
          · have e : x = p := by simpa using hx
            subst e; exact hp
        · rw [List.getElem?_append] at hk
          split at hk
          · rename_i hi
            rw [List.take_append_of_le_length (by omega)]
            exact hO.pre i k hk y hy
          · rename_i hi
            have hi2 : i = O.length := by
              have := (List.getElem?_eq_some_iff.1 hk).1
              simp at this; omega
            subst hi2
            simp at hk
            subst hk
            rw [List.take_append_of_le_length (Nat.le_refl _), List.take_length]
            exact hpl y hy
      have hs' : (O ++ [p]).length = n + 1 ∨ Stuck N E (O ++ [p]) := by
        rcases hs with hs | hs
        · exact .inl (by simp; omega)
        · obtain ⟨y, hy, hyo⟩ := hs p hp hpo
          exact absurd (hpl y hy) hyo
      obtain ⟨O', h1, h2, h3⟩ := ord0_loop d (n + 1) (O ++ [p]) (by omega) hO' hs'
      exact ⟨O', h1, h2, he.trans h3⟩
    · rw [List.drop_zero] at h1
      obtain ⟨O', h2, h3, h4⟩ := ord0_loop d (n + 1) O (by omega) hO (.inr h1)
      exact ⟨O', h2, h3, he.trans h4⟩
theorem order17_is : ∃ O, OutOK N E O ∧ Stuck N E O ∧ ref17_Order (.sl 1 (encD N)) (.sl 2 (encE E)) = some (.tup [.own 1 (encD O), .own 1 (encD (N.filter fun x => decide (x ∉ O)))]) := by
  obtain ⟨O, h1, h2, h3⟩ := ord0_loop N E hN hE N.length 0 [] (by omega) ⟨List.nodup_nil, by simp, fun i k hk => by simp at hk⟩ (.inl rfl)
  exact ⟨O, h1, h2, by rw [ref17_Order.f_eq]; exact h3⟩
end
end Go.Proofs.YtffojfcinkihnaaGreatDoor.Lat
