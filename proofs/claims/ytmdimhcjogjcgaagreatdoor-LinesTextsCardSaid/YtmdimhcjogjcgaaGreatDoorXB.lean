/- Quoted texts: the program's and the document's. -/
import Derived.Test.YtmdimhcjogjcgaaGreatDoorXA
set_option linter.unusedVariables false
set_option linter.unusedSimpArgs false
set_option linter.unusedSectionVars false
set_option linter.deprecated false
set_option linter.unnecessarySimpa false
namespace Go.Proofs.YtmdimhcjogjcgaaGreatDoor.Xp
open Go.Proofs.YtmdimhcjogjcgaaGreatDoor.Abs Go.Proofs.YtmdimhcjogjcgaaGreatDoor.Lat
theorem all256 (P : UInt8 → Bool) (h : (List.range 256).all (fun n => P (UInt8.ofNat n)) = true) (c : UInt8) : P c = true := by
  have h1 := List.all_eq_true.1 h c.toNat (List.mem_range.2 c.toNat_lt)
  rwa [UInt8.ofNat_toNat] at h1
def hexs : Bs := [48, 49, 50, 51, 52, 53, 54, 55, 56, 57, 97, 98, 99, 100, 101, 102]
theorem q34 (c : UInt8) : decide (((c.toNat : Int) : Int) = 34) = decide (c = 34) := by simpa using all256 (fun c => decide (((c.toNat : Int) : Int) = 34) == decide (c = 34)) (by decide +kernel) c
theorem q92 (c : UInt8) : decide (((c.toNat : Int) : Int) = 92) = decide (c = 92) := by simpa using all256 (fun c => decide (((c.toNat : Int) : Int) = 92) == decide (c = 92)) (by decide +kernel) c
theorem q10 (c : UInt8) : decide (((c.toNat : Int) : Int) = 10) = decide (c = 10) := by simpa using all256 (fun c => decide (((c.toNat : Int) : Int) = 10) == decide (c = 10)) (by decide +kernel) c
theorem q32 (c : UInt8) : decide (((c.toNat : Int) : Int) < 32) = decide (c < 32) := by simpa using all256 (fun c => decide (((c.toNat : Int) : Int) < 32) == decide (c < 32)) (by decide +kernel) c
theorem q126 (c : UInt8) : decide ((126 : Int) < (c.toNat : Int)) = decide (126 < c) := by simpa using all256 (fun c => decide ((126 : Int) < (c.toNat : Int)) == decide (126 < c)) (by decide +kernel) c
theorem hx1 (c : UInt8) : hexs[(Int.fdiv (c.toNat : Int) (2 ^ (min (4 : Int).toNat (IntKind.bits .u8)))).toNat]? = some (hexD (c / 16)) := by
  simpa using all256 (fun c => hexs[(Int.fdiv (c.toNat : Int) (2 ^ (min (4 : Int).toNat (IntKind.bits .u8)))).toNat]? == some (hexD (c / 16))) (by decide +kernel) c
theorem hx2 (c : UInt8) : hexs[(bitsI .and .u8 (c.toNat : Int) 15).toNat]? = some (hexD (c % 16)) := by
  simpa using all256 (fun c => hexs[(bitsI .and .u8 (c.toNat : Int) 15).toNat]? == some (hexD (c % 16))) (by decide +kernel) c
theorem hp1 (c : UInt8) : decide ((0 : Int) ≤ Int.fdiv (c.toNat : Int) (2 ^ (min (4 : Int).toNat (IntKind.bits .u8)))) = true := all256 (fun c => decide ((0 : Int) ≤ Int.fdiv (c.toNat : Int) (2 ^ (min (4 : Int).toNat (IntKind.bits .u8))))) (by decide +kernel) c
theorem hp2 (c : UInt8) : decide ((0 : Int) ≤ bitsI .and .u8 (c.toNat : Int) 15) = true := all256 (fun c => decide ((0 : Int) ≤ bitsI .and .u8 (c.toNat : Int) 15)) (by decide +kernel) c
theorem idxI {β α : Type} {l : List β} {n : Int} {x : β} (h0 : decide ((0 : Int) ≤ n) = true) (h : l[n.toNat]? = some x) (k : β → Option α) : idx l n k = k x := by
  unfold idx
  rw [h0, h]; rfl
def encB (s : Bs) : List (List AV) := s.map fun b => [AV.int .u8 (b.toNat : Int)]
theorem encB_len (s : Bs) : (encB s).length = s.length := List.length_map ..
theorem encB_app (a b : Bs) : encB a ++ encB b = encB (a ++ b) := by simp [encB]
theorem bytesOf_enc : ∀ s : Bs, bytesOf (encB s) = some s
  | [] => rfl
  | b :: r => by
    show (match bytesOf (encB r) with | some l => some (UInt8.ofNat (b.toNat : Int).toNat :: l) | none => none) = _
    rw [bytesOf_enc r]
    simp
theorem qc_len (c : UInt8) : (qc c).length ≤ 4 := by
  unfold qc
  split
  · simp
  · split
    · simp
    · split <;> simp
theorem quote_l (s : Bs) (hs : s.length ≤ 1048576) : ∀ (d i : Nat) (acc : Bs), i + d = s.length → acc.length ≤ 1 + 4 * i →
    token_Quote.l0 (.str s) (.own 1 (encB acc)) (.int .i64 (s.length : Int)) (.int .i64 (i : Int)) = some (.str (acc ++ ((s.drop i).flatMap qc ++ [34])))
  | 0, i, acc, hi, ha => by
    rw [token_Quote.l0_eq, decide_eq_false (by omega), ifF, gOK (by rw [encB_len]; simp; omega), guT, show encB acc ++ [[AV.int .u8 34]] = encB (acc ++ [34]) from by simp [encB], dropNil (by omega)]
    unfold bytesK
    rw [bytesOf_enc]
    simp
  | d + 1, i, acc, hi, ha => by
    have h1 : i < s.length := by omega
    have e1 : s[i]? = some s[i] := List.getElem?_eq_getElem h1
    have hq := qc_len s[i]
    have ih := quote_l s hs d (i + 1) (acc ++ qc s[i]) (by omega) (by rw [List.length_append]; omega)
    rw [dropCons h1, List.flatMap_cons]
    rw [show acc ++ (qc s[i] ++ (s.drop (i + 1)).flatMap qc ++ [34]) = acc ++ qc s[i] ++ ((s.drop (i + 1)).flatMap qc ++ [34]) by simp, ← ih]
    rw [token_Quote.l0_eq, decide_eq_true (by omega), ifT, idx_at e1, q34, q92, q10, q32, q126]
    generalize s[i] = c
    have hx1' := idxI (α := AV) (hp1 c) (hx1 c)
    have hx2' := idxI (α := AV) (hp2 c) (hx2 c)
    unfold hexs at hx1' hx2'
    by_cases c1 : c = 34 ∨ c = 92
    · have hb : (ifB (decide (c = 34)) (some true) (some (decide (c = 92)))) = some true := by
        rcases c1 with h | h
        · rw [decide_eq_true h]; rfl
        · rw [decide_eq_true h]; cases decide (c = 34) <;> rfl
      rw [hb, someB, ifT, gOK (by rw [encB_len]; simp; omega), guT, w64_succ (by omega), show qc c = [92, c] by unfold qc; rw [if_pos c1]]
      rw [← encB_app]; rfl
    · have hn := not_or.1 c1
      rw [decide_eq_false hn.1, ifF, decide_eq_false hn.2, someB, ifF]
      by_cases c2 : c = 10
      · rw [decide_eq_true c2, ifT, gOK (by rw [encB_len]; simp; omega), guT, w64_succ (by omega), show qc c = [92, 110] by unfold qc; rw [if_neg c1, if_pos c2]]
        rw [← encB_app]; rfl
      · rw [decide_eq_false c2, ifF]
        by_cases c3 : c < 32 ∨ 126 < c
        · have hb : (ifB (decide (c < 32)) (some true) (some (decide (126 < c)))) = some true := by
            rcases c3 with h | h
            · rw [decide_eq_true h]; rfl
            · rw [decide_eq_true h]; cases decide (c < 32) <;> rfl
          rw [hb, someB, ifT, show decide ((0 : Int) ≤ 4) = true from rfl, guT, hx1', hx2', gOK (by rw [encB_len]; simp; omega), guT, w64_succ (by omega), show qc c = [92, 120, hexD (c / 16), hexD (c % 16)] by unfold qc; rw [if_neg c1, if_neg c2, if_pos c3]]
          rw [← encB_app]; rfl
        · have hn := not_or.1 c3
          rw [decide_eq_false hn.1, ifF, decide_eq_false hn.2, someB, ifF, gOK (by rw [encB_len]; simp; omega), guT, w64_succ (by omega), show qc c = [c] by unfold qc; rw [if_neg c1, if_neg c2, if_neg c3]]
          rw [← encB_app]; rfl
theorem quote_is (s : Bs) (hs : s.length ≤ 1048576) : token_Quote (.str s) = some (.str (quoteB s)) := by
  rw [token_Quote.f_eq]
  have := quote_l s hs s.length 0 [34] (by omega) (by simp)
  rw [List.drop_zero] at this
  exact this
theorem w64c (c : UInt8) : w64 ((c.toNat : Int)) = (c.toNat : Int) := by
  have := c.toNat_lt
  exact w64_id (by omega)
theorem hd1 (c : UInt8) : w64 (Int.tdiv ((c.toNat : Int)) 16) = ((c / 16).toNat : Int) := by simpa using all256 (fun c => decide (w64 (Int.tdiv ((c.toNat : Int)) 16) = ((c / 16).toNat : Int))) (by decide +kernel) c
theorem hd2 (c : UInt8) : Int.tmod ((c.toNat : Int)) 16 = ((c % 16).toNat : Int) := by simpa using all256 (fun c => decide (Int.tmod ((c.toNat : Int)) 16 = ((c % 16).toNat : Int))) (by decide +kernel) c
theorem hg1 (c : UInt8) : hexs[(c / 16).toNat]? = some (hexD (c / 16)) := by simpa using all256 (fun c => hexs[(c / 16).toNat]? == some (hexD (c / 16))) (by decide +kernel) c
theorem hg2 (c : UInt8) : hexs[(c % 16).toNat]? = some (hexD (c % 16)) := by simpa using all256 (fun c => hexs[(c % 16).toNat]? == some (hexD (c % 16))) (by decide +kernel) c
theorem cut1 {β α : Type} {l : List β} {n : Nat} {x : β} (h : l[n]? = some x) (hn : n < 9223372036854775807) (k : List β → Option α) : cut l (n : Int) (w64 ((n : Int) + 1)) k = k [x] := by
  obtain ⟨h1, h2⟩ := List.getElem?_eq_some_iff.1 h
  rw [w64_succ hn]
  unfold cut
  rw [decide_eq_true (by omega), decide_eq_true (by omega), decide_eq_true (by omega)]
  show k ((l.take ((n + 1 : Nat) : Int).toNat).drop (n : Int).toNat) = _
  rw [Int.toNat_natCast, Int.toNat_natCast]
  congr 1
  rw [List.drop_take, Nat.add_sub_cancel_left, List.drop_eq_getElem_cons h1, h2]
  rfl
theorem gS {n m : Nat} (h : n + m ≤ 1073741824) : Nat.ble (n + m) lim = true := by rw [Nat.ble_eq]; unfold lim; omega
theorem q12_l (s : Bs) (hs : s.length ≤ 1048576) : ∀ (d i : Nat) (acc : Bs), i + d = s.length → acc.length ≤ 1 + 4 * i →
    ref12_Quote.l0 (.str s) (.str hexs) (.str acc) (.int .i64 (i : Int)) = some (.str (acc ++ ((s.drop i).flatMap qc ++ [34])))
  | 0, i, acc, hi, ha => by
    rw [ref12_Quote.l0_eq, decide_eq_false (by omega), ifF, gS (by simp; omega), guT, dropNil (by omega)]
    rfl
  | d + 1, i, acc, hi, ha => by
    have h1 : i < s.length := by omega
    have e1 : s[i]? = some s[i] := List.getElem?_eq_getElem h1
    have hq := qc_len s[i]
    have ih := q12_l s hs d (i + 1) (acc ++ qc s[i]) (by omega) (by rw [List.length_append]; omega)
    rw [dropCons h1, List.flatMap_cons]
    rw [show acc ++ (qc s[i] ++ (s.drop (i + 1)).flatMap qc ++ [34]) = acc ++ qc s[i] ++ ((s.drop (i + 1)).flatMap qc ++ [34]) by simp, ← ih]
    have hcut := fun (k : Bs → Option AV) => cut1 e1 (by omega) k
    rw [ref12_Quote.l0_eq, decide_eq_true (by omega), ifT, idx_at e1]
    simp only [w64c, hcut]
    rw [q34, q92, q10, q32, q126]
    generalize s[i] = c
    have hc1 := fun (k : Bs → Option AV) => cut1 (hg1 c) (by have := (c / 16).toNat_lt; omega) k
    have hc2 := fun (k : Bs → Option AV) => cut1 (hg2 c) (by have := (c % 16).toNat_lt; omega) k
    by_cases c1 : c = 34 ∨ c = 92
    · have hb : (ifB (decide (c = 34)) (some true) (some (decide (c = 92)))) = some true := by
        rcases c1 with h | h
        · rw [decide_eq_true h]; rfl
        · rw [decide_eq_true h]; cases decide (c = 34) <;> rfl
      rw [hb, someB, ifT, gS (by simp; omega), guT, gS (by simp; omega), guT, w64_succ (by omega), show qc c = [92, c] by unfold qc; rw [if_pos c1]]
      simp
    · have hn := not_or.1 c1
      rw [decide_eq_false hn.1, ifF, decide_eq_false hn.2, someB, ifF]
      by_cases c2 : c = 10
      · rw [decide_eq_true c2, ifT, gS (by simp; omega), guT, w64_succ (by omega), show qc c = [92, 110] by unfold qc; rw [if_neg c1, if_pos c2]]
      · rw [decide_eq_false c2, ifF]
        by_cases c3 : c < 32 ∨ 126 < c
        · have hb : (ifB (decide (c < 32)) (some true) (some (decide (126 < c)))) = some true := by
            rcases c3 with h | h
            · rw [decide_eq_true h]; rfl
            · rw [decide_eq_true h]; cases decide (c < 32) <;> rfl
          rw [hb, someB, ifT, gS (by simp; omega), guT]
          simp only [hd1, hd2, hc1, hc2]
          rw [gS (by simp; omega), guT, gS (by simp; omega), guT, w64_succ (by omega), show qc c = [92, 120, hexD (c / 16), hexD (c % 16)] by unfold qc; rw [if_neg c1, if_neg c2, if_pos c3]]
          simp
        · have hn := not_or.1 c3
          rw [decide_eq_false hn.1, ifF, decide_eq_false hn.2, someB, ifF, gS (by simp; omega), guT, w64_succ (by omega), show qc c = [c] by unfold qc; rw [if_neg c1, if_neg c2, if_neg c3]]
theorem q12_is (s : Bs) (hs : s.length ≤ 1048576) : ref12_Quote (.str s) = some (.str (quoteB s)) := by
  rw [ref12_Quote.f_eq]
  have := q12_l s hs s.length 0 [34] (by omega) (by simp)
  rw [List.drop_zero] at this
  exact this
theorem numbers_is (lo hi : Int) (s : Bs) (a : Bool) : ref36_numbers (.int .i64 lo) (.int .i64 hi) = some (.agg 7 (encE (oneX (plX 2 lo hi s a)))) := by
  rw [ref36_numbers.f_eq]
  unfold plX MI
  by_cases h : lo = hi
  · rw [decide_eq_true h, ifT, if_neg (by decide), if_neg (by decide), if_pos h]; rfl
  · rw [decide_eq_false h, ifF, if_neg (by decide), if_neg (by decide), if_neg h]
    by_cases h1 : lo = -9007199254740992
    · rw [decide_eq_true h1, ifT, someB, if_pos h1]
      by_cases h2 : hi = 9007199254740992
      · rw [decide_eq_true h2, ifT, if_pos h2]; rfl
      · rw [decide_eq_false h2, ifF, ifT, if_neg h2]; rfl
    · rw [decide_eq_false h1, ifF, someB, ifF, ifF, if_neg h1]
      by_cases h2 : hi = 9007199254740992
      · rw [decide_eq_true h2, ifT, if_pos h2]; rfl
      · rw [decide_eq_false h2, ifF, if_neg h2]; rfl
def lbx (op n : Int) (s : Bs) : AV := .boxv 7 [.int .i64 op, .int .i64 n, .str s, .sl 1 [], .sl 8 [], .bool false, .sl 7 []] [(3, .own 1 []), (4, .own 8 []), (6, .own 7 [])]
theorem j2L (t : Tm) (op n : Int) (s : Bs) (h : ¬ op = 11) : ref36_scalar.j2 (.boxv 8 (encT t) []) bx0 (lbx op n s) =
    some (.agg 7 (encE (oneX (if t.m = true then [lf 6 0, .mk op n s [] [] false []] else [.mk op n s [] [] false []])))) := by
  unfold bx0 stX lbx
  rw [ref36_scalar.j2_eq, g5, asB_]
  cases t.m with
  | false => rfl
  | true => rw [Bool.not_true, ifF, decide_eq_false h, ifF]; rfl
theorem j2V (t : Tm) (lo hi : Int) (s : Bs) (a : Bool) : ref36_scalar.j2 (.boxv 8 (encT t) []) bx0 (.boxv 7 (encE (oneX (plX 2 lo hi s a))) []) =
    some (.agg 7 (encE (oneX (if t.m = true then lf 6 0 :: plX 2 lo hi s a else plX 2 lo hi s a)))) := by
  unfold bx0 stX
  rw [ref36_scalar.j2_eq2, g5, asB_]
  cases t.m with
  | false => rfl
  | true =>
    rw [Bool.not_true, ifF, if_pos rfl]
    have hp : (∃ x, plX 2 lo hi s a = [x] ∧ ¬ x.op = 11) ∨ ∃ x y, plX 2 lo hi s a = [x, y] := by
      unfold plX
      rw [if_neg (by decide), if_neg (by decide)]
      split
      · exact .inl ⟨_, rfl, by show ¬ (1 : Int) = 11; decide⟩
      · split
        · split
          · exact .inl ⟨_, rfl, by show ¬ (4 : Int) = 11; decide⟩
          · exact .inl ⟨_, rfl, by show ¬ (8 : Int) = 11; decide⟩
        · split
          · exact .inl ⟨_, rfl, by show ¬ (7 : Int) = 11; decide⟩
          · exact .inr ⟨_, _, rfl⟩
    rcases hp with ⟨x, e, hx⟩ | ⟨x, y, e⟩
    · rw [e, show oneX [x] = x from rfl, x0, asI_, decide_eq_false hx, ifF]
      rfl
    · rw [e, show oneX [x, y] = .mk 11 0 [] [] [] false [x, y] from rfl, x0, asI_, show (decide ((Ex.mk 11 0 [] [] [] false [x, y]).op = 11)) = true from rfl, ifT, x6, asL7_]
      rfl
theorem scalar36_is (t : Tm) (hk : t.k = 1 ∨ t.k = 2 ∨ t.k = 3) : ref36_scalar (.agg 8 (encT t)) = some (.agg 7 (encE (oneX (if t.m = true then lf 6 0 :: plX t.k t.lo t.hi t.s t.a else plX t.k t.lo t.hi t.s t.a)))) := by
  rw [ref36_scalar.f_eq, g0, asI_, g0, asI_]
  have k0 := j2L t
  have k2 := j2V t
  unfold bx0 stX lbx at k0
  unfold bx0 stX at k2
  rcases hk with h | h | h
  · rw [h, show decide ((1 : Int) = 2) = false from rfl, ifF, ref36_scalar.j0_eq2, g0, asI_, h, show decide ((1 : Int) = 1) = true from rfl, ifT, g1, asI_, g2, asI_, someB]
    by_cases hl : t.lo = t.hi
    · have hR : plX 1 t.lo t.hi t.s t.a = [lf 3 t.lo] := by unfold plX; rw [if_neg (by decide), if_pos rfl, if_pos hl]
      rw [decide_eq_true hl, ifT, g1, asI_, ref36_scalar.j1_eq, g0, asI_, h, show decide ((1 : Int) = 3) = false from rfl, ifF, someB, ifF, hR]
      exact k0 3 t.lo [] (by decide)
    · have hR : plX 1 t.lo t.hi t.s t.a = [lf 4 1] := by unfold plX; rw [if_neg (by decide), if_pos rfl, if_neg hl]
      rw [decide_eq_false hl, ifF, ref36_scalar.j1_eq, g0, asI_, h, show decide ((1 : Int) = 3) = false from rfl, ifF, someB, ifF, hR]
      exact k0 4 1 [] (by decide)
  · rw [h, show decide ((2 : Int) = 2) = true from rfl, ifT, g1, asI_, g2, asI_, numbers_is t.lo t.hi t.s t.a, someB, asC7_, ref36_scalar.j0_eq, g0, asI_, h, show decide ((2 : Int) = 1) = false from rfl, ifF, someB, ifF, ref36_scalar.j1_eq2, g0, asI_, h, show decide ((2 : Int) = 3) = false from rfl, ifF, someB, ifF]
    exact k2 t.lo t.hi t.s t.a
  · rw [h, show decide ((3 : Int) = 2) = false from rfl, ifF, ref36_scalar.j0_eq2, g0, asI_, h, show decide ((3 : Int) = 1) = false from rfl, ifF, someB, ifF, ref36_scalar.j1_eq, g0, asI_, h, show decide ((3 : Int) = 3) = true from rfl, ifT, g4, asB_, someB]
    cases ha : t.a with
    | true =>
      have hR : plX 3 t.lo t.hi t.s true = [lf 4 3] := rfl
      rw [Bool.not_true, ifF, hR]
      exact k0 4 3 [] (by decide)
    | false =>
      have hR : plX 3 t.lo t.hi t.s false = [.mk 2 0 t.s [] [] false []] := rfl
      rw [Bool.not_false, ifT, g3, asS_, hR]
      exact k0 2 0 t.s (by decide)
end Go.Proofs.YtmdimhcjogjcgaaGreatDoor.Xp
