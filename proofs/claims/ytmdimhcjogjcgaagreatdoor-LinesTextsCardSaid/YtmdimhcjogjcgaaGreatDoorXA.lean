/- Expressions as plain trees; a value's expression; its text. -/
import Derived.Test.YtmdimhcjogjcgaaGreatDoorLD
import Derived.Lib.Join
set_option linter.unusedVariables false
set_option linter.unusedSimpArgs false
set_option linter.unusedSectionVars false
set_option linter.deprecated false
set_option linter.unnecessarySimpa false
namespace Go.Proofs.YtmdimhcjogjcgaaGreatDoor.Xp
open Go.Proofs.YtmdimhcjogjcgaaGreatDoor.Abs Go.Proofs.YtmdimhcjogjcgaaGreatDoor.Lat
mutual
inductive Ex where
  | mk (op n : Int) (s : Bs) (p : List Bs) (ps : List Pr) (o : Bool) (ks : List Ex)
inductive Pr where
  | mk (n : Bs) (e : Ex)
end
def Ex.op : Ex → Int | .mk x _ _ _ _ _ _ => x
def Ex.n : Ex → Int | .mk _ x _ _ _ _ _ => x
def Ex.s : Ex → Bs | .mk _ _ x _ _ _ _ => x
def Ex.p : Ex → List Bs | .mk _ _ _ x _ _ _ => x
def Ex.ps : Ex → List Pr | .mk _ _ _ _ x _ _ => x
def Ex.o : Ex → Bool | .mk _ _ _ _ _ x _ => x
def Ex.ks : Ex → List Ex | .mk _ _ _ _ _ _ x => x
def Pr.n : Pr → Bs | .mk x _ => x
def Pr.e : Pr → Ex | .mk _ x => x
mutual
def encE : Ex → List AV
  | .mk op n s p ps o ks => [.int .i64 op, .int .i64 n, .str s, .sl 1 (encD p), .sl 8 (encPs ps), .bool o, .sl 7 (encEs ks)]
def encEs : List Ex → List (List AV)
  | [] => []
  | e :: r => encE e :: encEs r
def encPr : Pr → List AV
  | .mk n e => .str n :: encE e
def encPs : List Pr → List (List AV)
  | [] => []
  | p :: r => encPr p :: encPs r
end
theorem encEs_map : ∀ l : List Ex, encEs l = l.map encE
  | [] => rfl
  | e :: r => by rw [encEs, encEs_map r]; rfl
theorem encPs_map : ∀ l : List Pr, encPs l = l.map encPr
  | [] => rfl
  | e :: r => by rw [encPs, encPs_map r]; rfl
theorem encEs_len (l : List Ex) : (encEs l).length = l.length := by rw [encEs_map, List.length_map]
theorem encPs_len (l : List Pr) : (encPs l).length = l.length := by rw [encPs_map, List.length_map]
theorem encE_at {l : List Ex} {i : Nat} {e : Ex} (h : l[i]? = some e) : (encEs l)[i]? = some (encE e) := by rw [encEs_map, List.getElem?_map, h]; rfl
theorem encPr_at {l : List Pr} {i : Nat} {e : Pr} (h : l[i]? = some e) : (encPs l)[i]? = some (encPr e) := by rw [encPs_map, List.getElem?_map, h]; rfl
theorem encEs_snoc (a : List Ex) (e : Ex) : encEs a ++ [encE e] = encEs (a ++ [e]) := by simp [encEs_map]
theorem encPs_snoc (a : List Pr) (p : Pr) : encPs a ++ [encPr p] = encPs (a ++ [p]) := by simp [encPs_map]
section
variable {α : Type}
theorem x0 (e : Ex) (k : AV → Option α) : getC (encE e) 0 k = k (.int .i64 e.op) := by cases e; rfl
theorem x1 (e : Ex) (k : AV → Option α) : getC (encE e) 1 k = k (.int .i64 e.n) := by cases e; rfl
theorem x2 (e : Ex) (k : AV → Option α) : getC (encE e) 2 k = k (.str e.s) := by cases e; rfl
theorem x3 (e : Ex) (k : AV → Option α) : getC (encE e) 3 k = k (.sl 1 (encD e.p)) := by cases e; rfl
theorem x4 (e : Ex) (k : AV → Option α) : getC (encE e) 4 k = k (.sl 8 (encPs e.ps)) := by cases e; rfl
theorem x5 (e : Ex) (k : AV → Option α) : getC (encE e) 5 k = k (.bool e.o) := by cases e; rfl
theorem x6 (e : Ex) (k : AV → Option α) : getC (encE e) 6 k = k (.sl 7 (encEs e.ks)) := by cases e; rfl
theorem y0 (p : Pr) (k : AV → Option α) : getC (encPr p) 0 k = k (.str p.n) := by cases p; rfl
theorem asL7_ (l : List (List AV)) (k : List (List AV) → Option α) : asL 7 (.sl 7 l) k = k l := rfl
theorem asL8_ (l : List (List AV)) (k : List (List AV) → Option α) : asL 8 (.sl 8 l) k = k l := rfl
end
mutual
def szE : Ex → Nat
  | .mk _ _ _ _ ps _ ks => 1 + szPs ps + szEs ks
def szEs : List Ex → Nat
  | [] => 0
  | e :: r => szE e + szEs r
def szPs : List Pr → Nat
  | [] => 0
  | .mk _ e :: r => szE e + szPs r
end
theorem szE_pos : ∀ e : Ex, 0 < szE e
  | .mk _ _ _ _ _ _ _ => by rw [szE]; omega
theorem szEs_len : ∀ l : List Ex, l.length ≤ szEs l
  | [] => Nat.le_refl _
  | e :: r => by have := szEs_len r; have := szE_pos e; rw [szEs, List.length_cons]; omega
theorem szPs_len : ∀ l : List Pr, l.length ≤ szPs l
  | [] => Nat.le_refl _
  | .mk n e :: r => by have := szPs_len r; have := szE_pos e; rw [szPs, List.length_cons]; omega
theorem szE_mem : ∀ {l : List Ex} {e : Ex}, e ∈ l → szE e ≤ szEs l
  | x :: r, e, h => by
    rw [szEs]
    rcases List.mem_cons.1 h with rfl | h
    · omega
    · have := szE_mem h; omega
theorem szP_mem : ∀ {l : List Pr} {p : Pr}, p ∈ l → szE p.e ≤ szPs l
  | .mk n e :: r, p, h => by
    rw [szPs]
    rcases List.mem_cons.1 h with rfl | h
    · show szE e ≤ _; omega
    · have := szP_mem h; omega
theorem szE_ks {e k : Ex} (h : k ∈ e.ks) : szE k < szE e := by
  cases e with
  | mk op n s p ps o ks => have := szE_mem (l := ks) h; rw [szE]; omega
theorem szE_ps {e : Ex} {p : Pr} (h : p ∈ e.ps) : szE p.e < szE e := by
  cases e with
  | mk op n s q ps o ks => have := szP_mem (l := ps) h; rw [szE]; omega
/-! A value's expression. -/
def MI : Int := 9007199254740992
def lf (op n : Int) : Ex := .mk op n [] [] [] false []
/-- The expressions of which a scalar, known now, is the meet. -/
def plX (k lo hi : Int) (s : Bs) (a : Bool) : List Ex :=
  if k = 3 then (if a = true then [lf 4 3] else [.mk 2 0 s [] [] false []])
  else if k = 1 then (if lo = hi then [lf 3 lo] else [lf 4 1])
  else if lo = hi then [lf 1 lo]
  else if lo = -MI then (if hi = MI then [lf 4 2] else [lf 8 hi])
  else if hi = MI then [lf 7 lo] else [lf 7 lo, lf 8 hi]
def oneX : List Ex → Ex
  | [x] => x
  | l => .mk 11 0 [] [] [] false l
mutual
def termX : Tm → Option Ex
  | .mk k lo hi s a m o fs => if k = 5 then some (lf 4 5) else if k = 4 then (pairsX fs).map fun ps => .mk 10 0 [] [] ps o []
    else some (oneX (if m = true then lf 6 0 :: plX k lo hi s a else plX k lo hi s a))
def pairsX : List Lat.Fd → Option (List Pr)
  | [] => some []
  | .mk n v :: r => (valX v).bind fun x => (pairsX r).map fun ps => .mk n x :: ps
def valX : List Tm → Option Ex
  | [] => some (lf 5 0)
  | [t] => termX t
  | t :: u :: r => if 32 < r.length + 2 then none else (termX t).bind fun x => (termsX (u :: r)).map fun l => .mk 12 0 [] [] [] false (x :: l)
def termsX : List Tm → Option (List Ex)
  | [] => some []
  | t :: r => (termX t).bind fun x => (termsX r).map fun l => x :: l
end
theorem valX_many {v : List Tm} (h : 2 ≤ v.length) (h2 : v.length ≤ 32) : valX v = (termsX v).map fun l => .mk 12 0 [] [] [] false l := by
  match v, h with
  | t :: u :: r, _ =>
    have e : ∀ q, termsX (t :: q) = (termX t).bind fun x => (termsX q).map fun l => x :: l := fun q => by rw [termsX]
    rw [valX, if_neg (by simp only [List.length_cons] at h2; omega), e]
    cases termX t with
    | none => rfl
    | some x => cases termsX (u :: r) <;> rfl
theorem valX_long {v : List Tm} (h : 32 < v.length) : valX v = none := by
  match v, h with
  | [t], h => simp at h
  | t :: u :: r, h => rw [valX, if_pos (by simp only [List.length_cons] at h; omega)]
def hexD (n : UInt8) : UInt8 := if n < 10 then 48 + n else 87 + n
def qc (c : UInt8) : Bs := if c = 34 ∨ c = 92 then [92, c] else if c = 10 then [92, 110] else if c < 32 ∨ 126 < c then [92, 120, hexD (c / 16), hexD (c % 16)] else [c]
def quoteB (s : Bs) : Bs := 34 :: (s.flatMap qc ++ [34])
def kindT (n : Int) : Bs := if n = 1 then [98, 111, 111, 108] else if n = 2 then [105, 110, 116] else if n = 3 then [115, 116, 114, 105, 110, 103] else [97, 110, 121]
def signT (op : Int) : Bs := if op = 11 then [32, 38, 32] else [32, 124, 32]
def brk (op k : Int) : Bool := decide (k = 12) || (decide (op = 11) && decide (k = 11))
mutual
def txE : Ex → Bs
  | .mk op n s p ps o ks => if op = 1 then Lib.itoa n else if op = 2 then quoteB s else if op = 3 then (if n = 1 then [116, 114, 117, 101] else [102, 97, 108, 115, 101]) else if op = 4 then kindT n
    else if op = 5 then [110, 111, 110, 101] else if op = 6 then [99, 111, 109, 112, 117, 116, 101, 100] else if op = 7 then 62 :: 61 :: Lib.itoa n else if op = 8 then 60 :: 61 :: Lib.itoa n
    else if op = 10 then 123 :: (Lib.join (txPs ps ++ (if o = true then [[46, 46, 46]] else [])) [32] ++ [125]) else Lib.join (txKs op ks) (signT op)
def txPs : List Pr → List Bs
  | [] => []
  | .mk n e :: r => (n ++ 58 :: 32 :: (txE e ++ [59])) :: txPs r
def txKs (op : Int) : List Ex → List Bs
  | [] => []
  | k :: r => (if brk op k.op = true then 40 :: (txE k ++ [41]) else txE k) :: txKs op r
end
mutual
def dpE : Ex → Nat
  | .mk op _ _ _ ps _ ks => 1 + (if op = 10 then dpPs ps else dpEs ks)
def dpEs : List Ex → Nat
  | [] => 0
  | e :: r => max (dpE e) (dpEs r)
def dpPs : List Pr → Nat
  | [] => 0
  | .mk _ e :: r => max (dpE e) (dpPs r)
end
theorem asC7_ {α : Type} (c : List AV) (k : List AV → Option α) : asC 7 (.agg 7 c) k = k c := rfl
theorem asL7o {α : Type} (l : List (List AV)) (k : List (List AV) → Option α) : asL 7 (.own 7 l) k = k l := rfl
theorem asT2x {α : Type} (a b : AV) (k : AV → AV → Option α) : asT2 (.tup [a, b]) k = k a b := rfl
theorem h1_ {α : Type} (f : Lat.Fd) (k : AV → Option α) : getC (encFd f) 1 k = k (.sl 8 (encV f.v)) := by cases f; rfl
theorem h0_ {α : Type} (f : Lat.Fd) (k : AV → Option α) : getC (encFd f) 0 k = k (.str f.n) := by cases f; rfl
theorem enc_lf (op n : Int) : encE (lf op n) = [AV.int .i64 op, AV.int .i64 n, AV.str [], AV.sl 1 [], AV.sl 8 [], AV.bool false, AV.sl 7 []] := rfl
theorem enc_tx (s : Bs) : encE (.mk 2 0 s [] [] false []) = [AV.int .i64 2, AV.int .i64 0, AV.str s, AV.sl 1 [], AV.sl 8 [], AV.bool false, AV.sl 7 []] := rfl
theorem plain_is (t : Tm) (hk : t.k = 1 ∨ t.k = 2 ∨ t.k = 3) : lines_plain (.agg 8 (encT t)) = some (.own 7 (encEs (plX t.k t.lo t.hi t.s t.a))) := by
  rw [lines_plain.f_eq]
  simp only [g0, g1, g2, g3, g4, asI_, asB_, asS_, lines_leaf.f_eq, someB, asC7_]
  generalize t.k = k at *
  generalize t.lo = lo
  generalize t.hi = hi
  generalize t.s = s
  generalize t.a = a
  unfold plX MI
  rcases hk with rfl | rfl | rfl
  · by_cases h : lo = hi
    · simp [h, ifB, encEs, enc_lf]
    · simp [h, ifB, encEs, enc_lf]
  · by_cases h : lo = hi
    · simp [h, ifB, encEs, enc_lf]
    · by_cases h1 : lo = -9007199254740992
      · by_cases h2 : hi = 9007199254740992
        · simp [h1, h2, ifB, encEs, enc_lf]
        · subst h1
          simp [h, h2, ifB, encEs, enc_lf]
      · by_cases h2 : hi = 9007199254740992
        · subst h2
          simp [h, h1, ifB, encEs, enc_lf]
        · simp [h, h1, h2, ifB, encEs, enc_lf]
  · cases a
    · simp [ifB, encEs, enc_tx]
    · simp [ifB, encEs, enc_lf]
/-- What is handed back of an expression. -/
def resX : Option Ex → AV
  | some x => .tup [.agg 7 (encE x), .int .i64 0]
  | none => .tup [.agg 7 (encE (lf 0 0)), .int .i64 4]
theorem resS (x : Ex) : resX (some x) = .tup [.agg 7 (encE x), .int .i64 0] := rfl
theorem resN : resX none = .tup [.agg 7 (encE (lf 0 0)), .int .i64 4] := rfl
def stX (op : Int) (o : Bool) : List AV := [.int .i64 op, .int .i64 0, .str [], .sl 1 [], .sl 8 [], .bool o, .sl 7 []]
def bx0 : AV := .boxv 7 (stX 0 false) [(3, .own 1 []), (4, .own 8 []), (6, .own 7 [])]
theorem spl_pr (n : Bs) (x : Ex) : splice [AV.str n, AV.int .i64 0, AV.int .i64 0, AV.str [], AV.sl 1 [], AV.sl 8 [], AV.bool false, AV.sl 7 []] 1 (encE x) = encPr (.mk n x) := by cases x; rfl
theorem pairs_l (o : Bool) (fs : List Lat.Fd) (hl : fs.length ≤ 1073741824) (h : ∀ f ∈ fs, lines_value (.agg 1 [.sl 8 (encV f.v)]) = some (resX (valX f.v))) : ∀ (d i : Nat) (acc : List Pr), i + d = fs.length → acc.length ≤ i →
    lines_term.l0 bx0 (.boxv 7 (stX 10 o) [(4, .own 8 (encPs acc)), (3, .own 1 []), (6, .own 7 [])]) (.sl 2 (encF fs)) (.int .i64 (fs.length : Int)) (.int .i64 (i : Int)) =
      some (resX ((pairsX (fs.drop i)).map fun ps => .mk 10 0 [] [] (acc ++ ps) o []))
  | 0, i, acc, hi, ha => by
    unfold bx0 stX
    rw [lines_term.l0_eq2, decide_eq_false (by omega), ifF, dropNil (by omega), pairsX]
    simp only [Option.map_some, List.append_nil]
    rfl
  | d + 1, i, acc, hi, ha => by
    have h1 : i < fs.length := by omega
    have e1 : fs[i]? = some fs[i] := List.getElem?_eq_getElem h1
    have hv := h _ (List.getElem_mem h1)
    have hx : pairsX (fs.drop i) = (valX fs[i].v).bind fun x => (pairsX (fs.drop (i + 1))).map fun ps => .mk fs[i].n x :: ps := by
      rw [dropCons h1]
      cases fs[i] with
      | mk n v => rw [pairsX]; rfl
    have ih := fun x => pairs_l o fs hl h d (i + 1) (acc ++ [.mk fs[i].n x]) (by omega) (by simp; omega)
    unfold bx0 stX at ih ⊢
    rw [lines_term.l0_eq2, decide_eq_true (by omega), ifT, idx_at (encFd_at e1), h1_]
    simp only [frz, hv, someB]
    rw [hx]
    cases hq : valX fs[i].v with
    | none =>
      simp only [resX, asT2x, asC7_, asI_, Option.bind_none, Option.map_none]
      rfl
    | some x =>
      rw [resS, asT2x, asC7_, asI_, Option.bind_some, show (!decide ((0 : Int) = 0)) = false from rfl, ifF, h0_, asS_, spl_pr, gOK (by rw [encPs_len]; simp; omega), guT, w64_succ (by omega), encPs_snoc, ih x]
      cases pairsX (fs.drop (i + 1)) with
      | none => rfl
      | some ps => simp [resX]
/-- Scalars: with 'computed' ahead or not. -/
theorem j1_is (l : List Ex) (h : 1 ≤ l.length) : lines_term.j1 bx0 (.own 7 (encEs l)) = some (resX (some (oneX l))) ∧ lines_term.j1 bx0 (.sl 7 (encEs l)) = some (resX (some (oneX l))) := by
  unfold bx0 stX
  rw [lines_term.j1_eq, lines_term.j1_eq2, encEs_len]
  match l, h with
  | [x], _ => exact ⟨rfl, rfl⟩
  | x :: y :: r, _ =>
    rw [decide_eq_false (by simp only [List.length_cons]; omega), ifF, lines_meet.f_eq]
    exact ⟨rfl, rfl⟩
theorem plX_pos (k lo hi : Int) (s : Bs) (a : Bool) : 1 ≤ (plX k lo hi s a).length ∧ (plX k lo hi s a).length ≤ 2 := by
  unfold plX
  split
  · split <;> exact ⟨by simp, by simp⟩
  · split
    · split <;> exact ⟨by simp, by simp⟩
    · split
      · exact ⟨by simp, by simp⟩
      · split
        · split <;> exact ⟨by simp, by simp⟩
        · split <;> exact ⟨by simp, by simp⟩
theorem term_of (t : Tm) (hk : 1 ≤ t.k ∧ t.k ≤ 5) (hl : t.fs.length ≤ 1073741824) (h : ∀ f ∈ t.fs, lines_value (.agg 1 [.sl 8 (encV f.v)]) = some (resX (valX f.v))) : lines_term (.agg 8 (encT t)) = some (resX (termX t)) := by
  have hT : termX t = if t.k = 5 then some (lf 4 5) else if t.k = 4 then (pairsX t.fs).map fun ps => .mk 10 0 [] [] ps t.o [] else some (oneX (if t.m = true then lf 6 0 :: plX t.k t.lo t.hi t.s t.a else plX t.k t.lo t.hi t.s t.a)) := by
    cases t; rw [termX]; rfl
  rw [lines_term.f_eq, g0, asI_, hT]
  by_cases h5 : t.k = 5
  · rw [decide_eq_true h5, ifT, if_pos h5, lines_leaf.f_eq]; rfl
  · rw [decide_eq_false h5, ifF, if_neg h5]
    by_cases h4 : t.k = 4
    · rw [decide_eq_true h4, ifT, if_pos h4, g6, asB_, g7, asL2, encF_len]
      match hfs : t.fs with
      | [] =>
        rw [lines_term.l0_eq, show (decide ((0 : Int) < (([] : List Lat.Fd).length : Int))) = false from rfl, ifF, pairsX]
        rfl
      | f :: r =>
        have hh : ∀ f' ∈ t.fs, lines_value (.agg 1 [.sl 8 (encV f'.v)]) = some (resX (valX f'.v)) := h
        rw [hfs] at hh hl
        have hv := hh f (List.mem_cons_self ..)
        have e0 : (encF (f :: r))[0]? = some (encFd f) := by cases f; rfl
        rw [lines_term.l0_eq, decide_eq_true (by simp only [List.length_cons]; omega), ifT, (show ∀ q : List AV → Option AV, idx (encF (f :: r)) 0 q = q (encFd f) from fun q => idx_at (j := 0) e0 q), h1_]
        simp only [frz, hv, someB]
        have hx : pairsX (f :: r) = (valX f.v).bind fun x => (pairsX r).map fun ps => .mk f.n x :: ps := by cases f; rw [pairsX]; rfl
        rw [hx]
        cases hq : valX f.v with
        | none => rw [resN]; rfl
        | some x =>
          have ih := pairs_l t.o (f :: r) hl hh r.length 1 [.mk f.n x] (by simp; omega) (by simp)
          unfold bx0 stX at ih
          rw [resS, asT2x, asC7_, asI_, Option.bind_some, show (!decide ((0 : Int) = 0)) = false from rfl, ifF, h0_, asS_, spl_pr, gOK (by simp), guT]
          rw [show ([] : List (List AV)) ++ [encPr (.mk f.n x)] = encPs [.mk f.n x] from rfl, show w64 ((0 : Int) + 1) = ((1 : Nat) : Int) from rfl]
          refine ih.trans ?_
          rw [List.drop_one, List.tail_cons]
          cases pairsX r <;> rfl
    · rw [decide_eq_false h4, ifF, if_neg h4, plain_is t (by omega), someB, asL7o, g5, asB_]
      have hp := plX_pos t.k t.lo t.hi t.s t.a
      cases t.m with
      | true =>
        rw [ifT, if_pos rfl, gOK (by rw [encEs_len]; simp; omega), guT]
        exact (j1_is (lf 6 0 :: plX t.k t.lo t.hi t.s t.a) (by simp)).1
      | false =>
        rw [ifF, if_neg (by simp)]
        exact (j1_is (plX t.k t.lo t.hi t.s t.a) hp.1).2
theorem terms_l (v : List Tm) (hl : v.length ≤ 1073741824) (h : ∀ t ∈ v, lines_term (.agg 8 (encT t)) = some (resX (termX t))) : ∀ (d i : Nat) (acc : List Ex), i + d = v.length → acc.length ≤ i →
    lines_value.l0 bx0 (.boxv 7 (stX 12 false) [(6, .own 7 (encEs acc)), (3, .own 1 []), (4, .own 8 [])]) (.sl 8 (encV v)) (.int .i64 (v.length : Int)) (.int .i64 (i : Int)) =
      some (resX ((termsX (v.drop i)).map fun l => .mk 12 0 [] [] [] false (acc ++ l)))
  | 0, i, acc, hi, ha => by
    unfold bx0 stX
    rw [lines_value.l0_eq2, decide_eq_false (by omega), ifF, dropNil (by omega), termsX]
    simp only [Option.map_some, List.append_nil]
    rfl
  | d + 1, i, acc, hi, ha => by
    have h1 : i < v.length := by omega
    have e1 : v[i]? = some v[i] := List.getElem?_eq_getElem h1
    have hv := h _ (List.getElem_mem h1)
    have hx : termsX (v.drop i) = (termX v[i]).bind fun x => (termsX (v.drop (i + 1))).map fun l => x :: l := by
      rw [dropCons h1, termsX]
    have ih := fun x => terms_l v hl h d (i + 1) (acc ++ [x]) (by omega) (by simp; omega)
    unfold bx0 stX at ih ⊢
    rw [lines_value.l0_eq2, decide_eq_true (by omega), ifT, idx_at (encT_at e1), hv, someB, hx]
    cases hq : termX v[i] with
    | none => rw [resN]; rfl
    | some x =>
      rw [resS, asT2x, asC7_, asI_, Option.bind_some, show (!decide ((0 : Int) = 0)) = false from rfl, ifF, gOK (by rw [encEs_len]; simp; omega), guT, w64_succ (by omega), encEs_snoc, ih x]
      cases termsX (v.drop (i + 1)) with
      | none => rfl
      | some l => simp [resX]
theorem value_of (v : List Tm) (hl : v.length ≤ 1073741824) (h : ∀ t ∈ v, lines_term (.agg 8 (encT t)) = some (resX (termX t))) : lines_value (.agg 1 [.sl 8 (encV v)]) = some (resX (valX v)) := by
  rw [lines_value.f_eq]
  simp only [v0, asL8, encV_len]
  match v, hl, h with
  | [], _, _ => rfl
  | [t], _, h =>
    rw [show decide ((([t] : List Tm).length : Int) = 0) = false from rfl, ifF, show decide ((([t] : List Tm).length : Int) = 1) = true from rfl, ifT, idxV0, h t (List.mem_cons_self ..), someB, valX]
    cases termX t <;> rfl
  | t :: u :: r, hl, h =>
    have hn : (t :: u :: r).length = r.length + 2 := rfl
    rw [decide_eq_false (by omega), ifF, decide_eq_false (by omega), ifF]
    by_cases h32 : 32 < r.length + 2
    · rw [decide_eq_true (by omega), ifT, valX_long (by omega)]; rfl
    · rw [decide_eq_false (by omega), ifF, valX_many (by omega) (by omega)]
      have e0 : (encV (t :: u :: r))[0]? = some (encT t) := encT_at rfl
      have ih := fun x => terms_l (t :: u :: r) hl h (r.length + 1) 1 [x] (by omega) (by simp)
      unfold bx0 stX at ih
      rw [lines_value.l0_eq, decide_eq_true (by omega), ifT, (show ∀ q : List AV → Option AV, idx (encV (t :: u :: r)) 0 q = q (encT t) from fun q => idx_at (j := 0) e0 q), h t (List.mem_cons_self ..), someB]
      have hx : ∀ q, termsX (t :: q) = (termX t).bind fun x => (termsX q).map fun l => x :: l := fun q => by rw [termsX]
      rw [hx]
      cases hq : termX t with
      | none => rw [resN]; rfl
      | some x =>
        rw [resS, asT2x, asC7_, asI_, Option.bind_some, show (!decide ((0 : Int) = 0)) = false from rfl, ifF, gOK (by simp), guT]
        rw [show ([] : List (List AV)) ++ [encE x] = encEs [x] from rfl, show w64 ((0 : Int) + 1) = ((1 : Nat) : Int) from rfl]
        refine (ih x).trans ?_
        rw [List.drop_one, List.tail_cons]
        cases termsX (u :: r) <;> rfl
/-- The kinds are kinds. -/
inductive KOK : List Tm → Prop where
  | mk (v : List Tm) (h : ∀ t ∈ v, 1 ≤ t.k ∧ t.k ≤ 5) (h' : ∀ t ∈ v, ∀ f ∈ t.fs, KOK f.v) : KOK v
theorem value_is (v : List Tm) (hz : szV v ≤ 1073741824) (hk : KOK v) : lines_value (.agg 1 [.sl 8 (encV v)]) = some (resX (valX v)) := by
  have hlen := szV_len v
  cases hk with
  | mk _ h h' =>
    refine value_of v (by omega) fun t ht => ?_
    have h1 := szF_len t.fs
    have h2 := mem_szT (v := v) ht
    rw [szT_fs] at h2
    refine term_of t (h t ht) (by omega) fun f hf => ?_
    have h3 := szV_dp ht hf
    exact value_is f.v (by omega) (h' t ht f hf)
termination_by szV v
decreasing_by have := szV_dp ht hf; omega
end Go.Proofs.YtmdimhcjogjcgaaGreatDoor.Xp
