/- The document's names for kinds, signs, brackets. -/
import Derived.Test.YtmdimhcjogjcgaaGreatDoorXD
import Derived.Test.YtmdimhcjogjcgaaGreatDoorLC
set_option linter.unusedVariables false
set_option linter.unusedSimpArgs false
set_option linter.unusedSectionVars false
set_option linter.deprecated false
set_option linter.unnecessarySimpa false
namespace Go.Proofs.YtmdimhcjogjcgaaGreatDoor.Xp
open Go.Proofs.YtmdimhcjogjcgaaGreatDoor.Abs Go.Proofs.YtmdimhcjogjcgaaGreatDoor.Lat
theorem kind15_is (n : Int) (h : n = 1 ∨ n = 2 ∨ n = 3 ∨ n = 5) : ref15_kind (.int .i64 n) = some (.str (kindT n)) := by
  rw [ref15_kind.f_eq]
  rcases h with rfl | rfl | rfl | rfl <;> rfl
theorem sign15_is (op : Int) (h : op = 11 ∨ op = 12) : ref15_sign (.int .i64 op) = some (.str (signT op)) := by
  rw [ref15_sign.f_eq]
  rcases h with rfl | rfl <;> rfl
theorem brk15_is (op i k : Int) (h : op = 11 ∨ op = 12) : ref15_bracketed (.int .i64 op) (.int .i64 i) (.int .i64 k) = some (.bool (brk op k)) := by
  rw [ref15_bracketed.f_eq]
  unfold brk
  rcases h with rfl | rfl
  · simp only [orKB, someB]
    show some (AV.bool (decide (k = 12) || decide (k = 11))) = _
    simp
  · simp only [orKB, someB]
    show some (AV.bool (decide (k = 12))) = _
    simp
def lvl (op : Int) : Int := if op = 12 then 1 else if op = 11 then 2 else 5
/-- The operations of values' expressions. -/
def opOK (op : Int) : Prop := (1 ≤ op ∧ op ≤ 8) ∨ op = 10 ∨ op = 11 ∨ op = 12
theorem GX.op {e : Ex} (h : GX e) : opOK e.op := by
  unfold opOK
  cases h with
  | nu op n h hn => show (1 ≤ op ∧ op ≤ 8) ∨ _; omega
  | tx s h => show ((1 : Int) ≤ 2 ∧ (2 : Int) ≤ 8) ∨ _; omega
  | bo n h => show ((1 : Int) ≤ 3 ∧ (3 : Int) ≤ 8) ∨ _; omega
  | ki n h => show ((1 : Int) ≤ 4 ∧ (4 : Int) ≤ 8) ∨ _; omega
  | ze op h => show (1 ≤ op ∧ op ≤ 8) ∨ _; omega
  | st ps o h hr hp => exact .inr (.inl rfl)
  | ks op h ks h1 h2 hk => show _ ∨ op = 10 ∨ op = 11 ∨ op = 12; omega
theorem level_is (e : Ex) (h : opOK e.op) : show_level (.agg 7 (encE e)) = some (.int .i64 (lvl e.op)) := by
  rw [show_level.f_eq]
  simp only [x0, asI_]
  generalize e.op = op at h ⊢
  unfold opOK at h
  rcases (by omega : op = 1 ∨ op = 2 ∨ op = 3 ∨ op = 4 ∨ op = 5 ∨ op = 6 ∨ op = 7 ∨ op = 8 ∨ op = 10 ∨ op = 11 ∨ op = 12) with rfl | rfl | rfl | rfl | rfl | rfl | rfl | rfl | rfl | rfl | rfl <;> rfl
theorem lvl_brk (op k : Int) (h : op = 11 ∨ op = 12) (hk : opOK k) : decide (lvl k < lvl op + 1) = brk op k := by
  unfold opOK at hk
  rcases h with rfl | rfl <;>
    (rcases (by omega : k = 1 ∨ k = 2 ∨ k = 3 ∨ k = 4 ∨ k = 5 ∨ k = 6 ∨ k = 7 ∨ k = 8 ∨ k = 10 ∨ k = 11 ∨ k = 12) with rfl | rfl | rfl | rfl | rfl | rfl | rfl | rfl | rfl | rfl | rfl <;> rfl)
theorem rn_len {s : Bs} (h : Rn s = true) : s.length ≤ 16 := by
  have h : Nam.rightV s = true := h
  unfold Nam.rightV at h
  simp only [Bool.and_eq_true, decide_eq_true_eq] at h
  exact h.1.1.2
theorem risF_all : ∀ (d : List Bs) (p : Option Bs), risF Rn p (fsD d) = true → ∀ s ∈ d, Rn s = true
  | [], p, _, s, h => by cases h
  | x :: r, p, h, s, hs => by
    have h' : (Rn x && rises p x && risF Rn (some x) (fsD r)) = true := h
    simp only [Bool.and_eq_true] at h'
    rcases List.mem_cons.1 hs with rfl | hs
    · exact h'.1.1
    · exact risF_all r _ h'.2 s hs
theorem ris_len {d : List Bs} (h : risD d = true) : ∀ s ∈ d, s.length ≤ 16 := fun s hs => rn_len (risF_all d none h s hs)
theorem flat_len : ∀ s : Bs, (s.flatMap qc).length ≤ 4 * s.length
  | [] => by simp
  | c :: r => by
    have := flat_len r
    have := qc_len c
    rw [List.flatMap_cons, List.length_append, List.length_cons]; omega
theorem quoteB_len (s : Bs) : (quoteB s).length ≤ 4 * s.length + 2 := by
  have := flat_len s
  unfold quoteB
  simp only [List.length_cons, List.length_append, List.length_nil]; omega
theorem itoa_len {n : Int} (h : -9223372036854775808 ≤ n ∧ n ≤ 9223372036854775807) : (Lib.itoa n).length ≤ 21 := by
  by_cases h0 : n < 0
  · rw [itoa_neg' n h0, List.length_cons]
    have := dec_len n.natAbs (by omega); omega
  · rw [itoa_pos' n h0]
    have := dec_len n.toNat (by omega); omega
theorem join_le (xs : List Bs) (sep : Bs) : (Lib.join xs sep).length ≤ Lib.lens xs + sep.length * xs.length := by
  cases xs with
  | nil => simp [Lib.join_nil]
  | cons x r =>
    rw [Lib.join_length, List.length_cons, Nat.mul_succ]; omega
theorem lens_cons (x : Bs) (r : List Bs) : Lib.lens (x :: r) = x.length + Lib.lens r := by simp [Lib.lens]
theorem lens_app (a b : List Bs) : Lib.lens (a ++ b) = Lib.lens a + Lib.lens b := by simp [Lib.lens]
theorem signT_len (op : Int) : (signT op).length = 3 := by unfold signT; split <;> rfl
theorem txKs_len (op : Int) : ∀ ks : List Ex, (txKs op ks).length = ks.length
  | [] => rfl
  | k :: r => by rw [txKs, List.length_cons, List.length_cons, txKs_len op r]
theorem txPs_len : ∀ ps : List Pr, (txPs ps).length = ps.length
  | [] => rfl
  | .mk n e :: r => by rw [txPs, List.length_cons, List.length_cons, txPs_len r]
theorem txKs_le (op : Int) : ∀ ks : List Ex, (∀ k ∈ ks, (txE k).length + 32 ≤ 2048 * szE k) → Lib.lens (txKs op ks) + 30 * ks.length ≤ 2048 * szEs ks
  | [], _ => by simp [txKs, Lib.lens]
  | k :: r, h => by
    have ih := txKs_le op r fun x hx => h x (List.mem_cons_of_mem _ hx)
    have hk := h k (List.mem_cons_self ..)
    rw [txKs, lens_cons, szEs, List.length_cons]
    split
    · simp only [List.length_cons, List.length_append, List.length_nil]; omega
    · omega
theorem txPs_le : ∀ ps : List Pr, (∀ p ∈ ps, (txE p.e).length + 32 ≤ 2048 * szE p.e) → (∀ p ∈ ps, p.n.length ≤ 16) → Lib.lens (txPs ps) + 13 * ps.length ≤ 2048 * szPs ps
  | [], _, _ => by simp [txPs, Lib.lens]
  | .mk n e :: r, h, hn => by
    have ih := txPs_le r (fun x hx => h x (List.mem_cons_of_mem _ hx)) (fun x hx => hn x (List.mem_cons_of_mem _ hx))
    have hk : (txE e).length + 32 ≤ 2048 * szE e := h _ (List.mem_cons_self ..)
    have hn' : n.length ≤ 16 := hn _ (List.mem_cons_self ..)
    rw [txPs, lens_cons, szPs, List.length_cons]
    simp only [List.length_cons, List.length_append, List.length_nil]; omega
theorem txLf (op n : Int) : txE (lf op n) = if op = 1 then Lib.itoa n else if op = 2 then quoteB [] else if op = 3 then (if n = 1 then [116, 114, 117, 101] else [102, 97, 108, 115, 101]) else if op = 4 then kindT n
    else if op = 5 then [110, 111, 110, 101] else if op = 6 then [99, 111, 109, 112, 117, 116, 101, 100] else if op = 7 then 62 :: 61 :: Lib.itoa n else if op = 8 then 60 :: 61 :: Lib.itoa n
    else if op = 10 then 123 :: (Lib.join (txPs [] ++ (if false = true then [[46, 46, 46]] else [])) [32] ++ [125]) else Lib.join (txKs op []) (signT op) := by rw [lf, txE]
theorem tx_len (e : Ex) (h : GX e) : (txE e).length + 32 ≤ 2048 * szE e := by
  have hpos := szE_pos e
  cases h with
  | nu op n h hn =>
    have hi := itoa_len (n := n) (by omega)
    rw [txLf]
    rcases h with rfl | rfl | rfl
    · rw [if_pos rfl]; omega
    · rw [if_neg (by decide), if_neg (by decide), if_neg (by decide), if_neg (by decide), if_neg (by decide), if_neg (by decide), if_pos rfl]
      simp only [List.length_cons]; omega
    · rw [if_neg (by decide), if_neg (by decide), if_neg (by decide), if_neg (by decide), if_neg (by decide), if_neg (by decide), if_neg (by decide), if_pos rfl]
      simp only [List.length_cons]; omega
  | tx s h =>
    have := quoteB_len s
    rw [txE, if_neg (by decide), if_pos rfl]; omega
  | bo n h =>
    rw [txLf]
    rcases h with rfl | rfl <;> (simp; omega)
  | ki n h =>
    rw [txLf]
    rcases h with rfl | rfl | rfl | rfl <;> (simp [kindT]; omega)
  | ze op h =>
    rw [txLf]
    rcases h with rfl | rfl <;> (simp; omega)
  | st ps o h hr hp =>
    have hk := txPs_le ps (fun p hm => have := szE_ps (e := .mk 10 0 [] [] ps o []) hm; tx_len p.e (hp p hm)) (fun p hm => ris_len hr p.n (List.mem_map_of_mem hm))
    rw [txE, if_neg (by decide), if_neg (by decide), if_neg (by decide), if_neg (by decide), if_neg (by decide), if_neg (by decide), if_neg (by decide), if_neg (by decide), if_pos rfl]
    have hj := join_le (txPs ps ++ (if o = true then [[46, 46, 46]] else [])) [32]
    rw [lens_app, List.length_append, txPs_len] at hj
    have h1 : Lib.lens (if o = true then [[46, 46, 46]] else []) ≤ 3 := by cases o <;> simp [Lib.lens]
    have h2 : (if o = true then [[(46 : UInt8), 46, 46]] else []).length ≤ 1 := by cases o <;> simp
    simp only [List.length_cons, List.length_append, List.length_nil] at hj ⊢
    rw [szE, szEs]
    omega
  | ks op h ks h1 h2 hk =>
    have hk := txKs_le op ks fun k hm => have := szE_ks (e := .mk op 0 [] [] [] false ks) hm; tx_len k (hk k hm)
    have hj := join_le (txKs op ks) (signT op)
    rw [signT_len, txKs_len] at hj
    have ht : txE (.mk op 0 [] [] [] false ks) = Lib.join (txKs op ks) (signT op) := by
      rw [txE]
      rcases h with rfl | rfl <;> rfl
    rw [ht, szE, szPs]
    omega
termination_by szE e
/-- What Of hands back: the expression, if there is one. -/
def OfR (v : List Tm) : Prop := ∃ x, ref36_Of (.agg 1 [.sl 8 (encV v)]) = some (.tup [.agg 7 (encE x), .bool (valX v).isSome]) ∧ ∀ y, valX v = some y → x = y
def bv (v : List Tm) : AV := .boxv 1 [.sl 8 (encV v)] []
def o1 : AV := .boxv 7 (stX 12 false) [(3, .own 1 []), (4, .own 8 []), (6, .own 7 [])]
def o2 (ks : List Ex) : AV := .boxv 7 (stX 12 false) [(6, .own 7 (encEs ks)), (3, .own 1 []), (4, .own 8 [])]
def noX : Option AV := some (.tup [.agg 7 (encE (lf 0 0)), .bool false])
noncomputable def nxt (v : List Tm) (ks : List Ex) (i : Nat) : Option Ex → Option AV
  | none => noX
  | some x => ref36_Of.l0 (bv v) bx0 (o2 (ks ++ [x])) (.int .i64 ((i + 1 : Nat) : Int))
theorem gc0 {α : Type} (x : AV) (k : AV → Option α) : getC [x] 0 k = k x := rfl
theorem termX_eq (t : Tm) : termX t = if t.k = 5 then some (lf 4 5) else if t.k = 4 then (pairsX t.fs).map fun ps => .mk 10 0 [] [] ps t.o [] else some (oneX (if t.m = true then lf 6 0 :: plX t.k t.lo t.hi t.s t.a else plX t.k t.lo t.hi t.s t.a)) := by
  cases t; rw [termX]; rfl
theorem pairsX_cons (f : Lat.Fd) (r : List Lat.Fd) : pairsX (f :: r) = (valX f.v).bind fun x => (pairsX r).map fun ps => .mk f.n x :: ps := by cases f; rw [pairsX]; rfl

theorem pr_l1 (v : List Tm) (t : Tm) (hl : t.fs.length ≤ 1073741824) (h : ∀ f ∈ t.fs, OfR f.v) (ks : List Ex) (hks : ks.length ≤ 1073741823) (h0 : ks = []) (i : Nat) (hi : i ≤ 1073741824) : ∀ (d k : Nat) (acc : List Pr), k + d = t.fs.length → acc.length ≤ k →
    ref36_Of.l2 (bv v) bx0 o1 (.int .i64 (i : Int)) (.boxv 8 (encT t) []) (.boxv 7 (stX 10 t.o) [(4, .own 8 (encPs acc)), (3, .own 1 []), (6, .own 7 [])]) (.int .i64 (k : Int)) = nxt v ks i ((pairsX (t.fs.drop k)).map fun ps => .mk 10 0 [] [] (acc ++ ps) t.o [])
  | 0, k, acc, hk, ha => by
    unfold bv bx0 o1 stX
    rw [ref36_Of.l2_eq2]
    simp only [g7, asL2, encF_len]
    rw [decide_eq_false (by omega), ifF, gOK (by simp), guT, dropNil (by omega), pairsX, w64_succ (by omega)]
    simp only [Option.map_some, List.append_nil]
    subst h0
    rw [show ([] : List (List AV)) ++ [[AV.int .i64 10, AV.int .i64 0, AV.str [], AV.sl 1 [], AV.sl 8 (encPs acc), AV.bool t.o, AV.sl 7 []]] = encEs ([] ++ [.mk 10 0 [] [] acc t.o []]) from encEs_snoc [] (.mk 10 0 [] [] acc t.o [])]
    rfl
  | d + 1, k, acc, hk, ha => by
    have h1 : k < t.fs.length := by omega
    have e1 : t.fs[k]? = some t.fs[k] := List.getElem?_eq_getElem h1
    obtain ⟨x, hx, hxx⟩ := h _ (List.getElem_mem h1)
    have ih := fun x => pr_l1 v t hl h ks hks h0 i hi d (k + 1) (acc ++ [.mk t.fs[k].n x]) (by omega) (by simp; omega)
    unfold bv bx0 o1 stX at ih ⊢
    rw [ref36_Of.l2_eq2]
    simp only [g7, asL2, encF_len]
    rw [decide_eq_true (by omega), ifT, idx_at (encFd_at e1), h1_]
    rw [hx, someB, asT2x, asC7_, asB_, dropCons h1, pairsX_cons]
    cases hq : valX t.fs[k].v with
    | none => rfl
    | some y =>
      obtain rfl := hxx y hq
      rw [Option.isSome_some, Bool.not_true, ifF, idx_at (encFd_at e1), h0_, asS_, spl_pr, gOK (by rw [encPs_len]; simp; omega), guT, w64_succ (by omega), encPs_snoc, ih x, Option.bind_some]
      cases pairsX (t.fs.drop (k + 1)) with
      | none => rfl
      | some l => simp [Option.map]
theorem pr_01 (v : List Tm) (t : Tm) (hl : t.fs.length ≤ 1073741824) (h : ∀ f ∈ t.fs, OfR f.v) (ks : List Ex) (hks : ks.length ≤ 1073741823) (h0 : ks = []) (i : Nat) (hi : i ≤ 1073741824) :
    ref36_Of.l2 (bv v) bx0 o1 (.int .i64 (i : Int)) (.boxv 8 (encT t) []) (.boxv 7 (stX 10 t.o) [(3, .own 1 []), (4, .own 8 []), (6, .own 7 [])]) (.int .i64 0) = nxt v ks i ((pairsX t.fs).map fun ps => .mk 10 0 [] [] ps t.o []) := by
  by_cases hn : t.fs.length = 0
  · have hf := List.eq_nil_of_length_eq_zero hn
    unfold bv bx0 o1 stX
    rw [ref36_Of.l2_eq]
    simp only [g7, asL2, encF_len]
    rw [decide_eq_false (by omega), ifF, gOK (by simp), guT, hf, pairsX, w64_succ (by omega)]
    subst h0
    rw [show ([] : List (List AV)) ++ [[AV.int .i64 10, AV.int .i64 0, AV.str [], AV.sl 1 [], AV.sl 8 [], AV.bool t.o, AV.sl 7 []]] = encEs ([] ++ [.mk 10 0 [] [] [] t.o []]) from encEs_snoc [] (.mk 10 0 [] [] [] t.o [])]
    rfl
  · have h1 : 0 < t.fs.length := by omega
    have e1 : t.fs[0]? = some t.fs[0] := List.getElem?_eq_getElem h1
    obtain ⟨x, hx, hxx⟩ := h _ (List.getElem_mem h1)
    have ih := fun x => pr_l1 v t hl h ks hks h0 i hi (t.fs.length - 1) 1 [.mk t.fs[0].n x] (by omega) (by simp)
    unfold bv bx0 o1 stX at ih ⊢
    rw [ref36_Of.l2_eq]
    simp only [g7, asL2, encF_len]
    have hz : ∀ {α : Type} (q : List AV → Option α), idx (encF t.fs) 0 q = q (encFd t.fs[0]) := fun q => idx_at (j := 0) (encFd_at e1) q
    have hd : pairsX t.fs = (valX t.fs[0].v).bind fun x => (pairsX (t.fs.drop 1)).map fun ps => .mk t.fs[0].n x :: ps := by
      rw [← pairsX_cons, ← dropCons h1, List.drop_zero]
    rw [decide_eq_true (by omega), ifT, hz, h1_]
    rw [hx, someB, asT2x, asC7_, asB_, hd]
    cases hq : valX t.fs[0].v with
    | none => rfl
    | some y =>
      obtain rfl := hxx y hq
      rw [Option.isSome_some, Bool.not_true, ifF, hz, h0_, asS_, spl_pr, gOK (by simp), guT, show w64 ((0 : Int) + 1) = ((1 : Nat) : Int) from rfl]
      refine (ih x).trans ?_
      rw [Option.bind_some]
      cases pairsX (t.fs.drop 1) with
      | none => rfl
      | some l => rfl
theorem st361 (v : List Tm) (hv : v.length ≤ 1073741824) (i : Nat) (hi : i < v.length) (hk : 1 ≤ v[i].k ∧ v[i].k ≤ 5) (hl : v[i].fs.length ≤ 1073741824) (h : ∀ f ∈ v[i].fs, OfR f.v) (ks : List Ex) (hks : ks.length ≤ 1073741823) (h0 : ks = []) :
    ref36_Of.l0 (bv v) bx0 o1 (.int .i64 (i : Int)) = nxt v ks i (termX v[i]) := by
  have e1 : v[i]? = some v[i] := List.getElem?_eq_getElem hi
  subst h0
  have hp := pr_01 v v[i] hl h [] hks rfl i (by omega)
  have hlast : ∀ x, ref36_Of.l0 (bv v) bx0 (.boxv 7 (stX 12 false) [(6, .own 7 (encEs [] ++ [encE x])), (3, .own 1 []), (4, .own 8 [])]) (.int .i64 (w64 ((i : Int) + 1))) = nxt v [] i (some x) := fun x => by
    rw [encEs_snoc, w64_succ (by omega)]; rfl
  unfold bv bx0 o1 stX at hp ⊢
  unfold bv bx0 stX at hlast
  rw [ref36_Of.l0_eq]
  simp only [gc0, asL8, encV_len]
  rw [decide_eq_true (by omega), ifT, idx_at (encT_at e1), g0, asI_, termX_eq]
  by_cases h4 : v[i].k < 4
  · rw [decide_eq_true h4, ifT, scalar36_is v[i] (by omega), someB, asC7_, if_neg (show ¬ v[i].k = 5 by omega), if_neg (show ¬ v[i].k = 4 by omega), ref36_Of.j1_eq, g0, asI_, decide_eq_false (by omega), ifF, gOK (by simp), guT]
    exact hlast _
  · rw [decide_eq_false h4, ifF, ref36_Of.j1_eq2, g0, asI_]
    by_cases h5 : v[i].k = 5
    · rw [decide_eq_false (by omega), ifF, if_pos h5, gOK (by simp), guT]
      exact hlast (lf 4 5)
    · have h44 : v[i].k = 4 := by omega
      rw [decide_eq_true h44, ifT, if_neg h5, if_pos h44, g6, asB_]
      exact hp

theorem pr_l2 (v : List Tm) (t : Tm) (hl : t.fs.length ≤ 1073741824) (h : ∀ f ∈ t.fs, OfR f.v) (ks : List Ex) (hks : ks.length ≤ 1073741823) (i : Nat) (hi : i ≤ 1073741824) : ∀ (d k : Nat) (acc : List Pr), k + d = t.fs.length → acc.length ≤ k →
    ref36_Of.l2 (bv v) bx0 (o2 ks) (.int .i64 (i : Int)) (.boxv 8 (encT t) []) (.boxv 7 (stX 10 t.o) [(4, .own 8 (encPs acc)), (3, .own 1 []), (6, .own 7 [])]) (.int .i64 (k : Int)) = nxt v ks i ((pairsX (t.fs.drop k)).map fun ps => .mk 10 0 [] [] (acc ++ ps) t.o [])
  | 0, k, acc, hk, ha => by
    unfold bv bx0 o2 stX
    rw [ref36_Of.l2_eq4]
    simp only [g7, asL2, encF_len]
    rw [decide_eq_false (by omega), ifF, gOK (by rw [encEs_len, List.length_singleton]; omega), guT, dropNil (by omega), pairsX, w64_succ (by omega)]
    simp only [Option.map_some, List.append_nil]
    skip
    rw [show encEs ks ++ [[AV.int .i64 10, AV.int .i64 0, AV.str [], AV.sl 1 [], AV.sl 8 (encPs acc), AV.bool t.o, AV.sl 7 []]] = encEs (ks ++ [.mk 10 0 [] [] acc t.o []]) from encEs_snoc ks (.mk 10 0 [] [] acc t.o [])]
    rfl
  | d + 1, k, acc, hk, ha => by
    have h1 : k < t.fs.length := by omega
    have e1 : t.fs[k]? = some t.fs[k] := List.getElem?_eq_getElem h1
    obtain ⟨x, hx, hxx⟩ := h _ (List.getElem_mem h1)
    have ih := fun x => pr_l2 v t hl h ks hks i hi d (k + 1) (acc ++ [.mk t.fs[k].n x]) (by omega) (by simp; omega)
    unfold bv bx0 o2 stX at ih ⊢
    rw [ref36_Of.l2_eq4]
    simp only [g7, asL2, encF_len]
    rw [decide_eq_true (by omega), ifT, idx_at (encFd_at e1), h1_]
    rw [hx, someB, asT2x, asC7_, asB_, dropCons h1, pairsX_cons]
    cases hq : valX t.fs[k].v with
    | none => rfl
    | some y =>
      obtain rfl := hxx y hq
      rw [Option.isSome_some, Bool.not_true, ifF, idx_at (encFd_at e1), h0_, asS_, spl_pr, gOK (by rw [encPs_len]; simp; omega), guT, w64_succ (by omega), encPs_snoc, ih x, Option.bind_some]
      cases pairsX (t.fs.drop (k + 1)) with
      | none => rfl
      | some l => simp [Option.map]
theorem pr_02 (v : List Tm) (t : Tm) (hl : t.fs.length ≤ 1073741824) (h : ∀ f ∈ t.fs, OfR f.v) (ks : List Ex) (hks : ks.length ≤ 1073741823) (i : Nat) (hi : i ≤ 1073741824) :
    ref36_Of.l2 (bv v) bx0 (o2 ks) (.int .i64 (i : Int)) (.boxv 8 (encT t) []) (.boxv 7 (stX 10 t.o) [(3, .own 1 []), (4, .own 8 []), (6, .own 7 [])]) (.int .i64 0) = nxt v ks i ((pairsX t.fs).map fun ps => .mk 10 0 [] [] ps t.o []) := by
  by_cases hn : t.fs.length = 0
  · have hf := List.eq_nil_of_length_eq_zero hn
    unfold bv bx0 o2 stX
    rw [ref36_Of.l2_eq3]
    simp only [g7, asL2, encF_len]
    rw [decide_eq_false (by omega), ifF, gOK (by rw [encEs_len, List.length_singleton]; omega), guT, hf, pairsX, w64_succ (by omega)]
    skip
    rw [show encEs ks ++ [[AV.int .i64 10, AV.int .i64 0, AV.str [], AV.sl 1 [], AV.sl 8 [], AV.bool t.o, AV.sl 7 []]] = encEs (ks ++ [.mk 10 0 [] [] [] t.o []]) from encEs_snoc ks (.mk 10 0 [] [] [] t.o [])]
    rfl
  · have h1 : 0 < t.fs.length := by omega
    have e1 : t.fs[0]? = some t.fs[0] := List.getElem?_eq_getElem h1
    obtain ⟨x, hx, hxx⟩ := h _ (List.getElem_mem h1)
    have ih := fun x => pr_l2 v t hl h ks hks i hi (t.fs.length - 1) 1 [.mk t.fs[0].n x] (by omega) (by simp)
    unfold bv bx0 o2 stX at ih ⊢
    rw [ref36_Of.l2_eq3]
    simp only [g7, asL2, encF_len]
    have hz : ∀ {α : Type} (q : List AV → Option α), idx (encF t.fs) 0 q = q (encFd t.fs[0]) := fun q => idx_at (j := 0) (encFd_at e1) q
    have hd : pairsX t.fs = (valX t.fs[0].v).bind fun x => (pairsX (t.fs.drop 1)).map fun ps => .mk t.fs[0].n x :: ps := by
      rw [← pairsX_cons, ← dropCons h1, List.drop_zero]
    rw [decide_eq_true (by omega), ifT, hz, h1_]
    rw [hx, someB, asT2x, asC7_, asB_, hd]
    cases hq : valX t.fs[0].v with
    | none => rfl
    | some y =>
      obtain rfl := hxx y hq
      rw [Option.isSome_some, Bool.not_true, ifF, hz, h0_, asS_, spl_pr, gOK (by simp), guT, show w64 ((0 : Int) + 1) = ((1 : Nat) : Int) from rfl]
      refine (ih x).trans ?_
      rw [Option.bind_some]
      cases pairsX (t.fs.drop 1) with
      | none => rfl
      | some l => rfl
theorem st362 (v : List Tm) (hv : v.length ≤ 1073741824) (i : Nat) (hi : i < v.length) (hk : 1 ≤ v[i].k ∧ v[i].k ≤ 5) (hl : v[i].fs.length ≤ 1073741824) (h : ∀ f ∈ v[i].fs, OfR f.v) (ks : List Ex) (hks : ks.length ≤ 1073741823) :
    ref36_Of.l0 (bv v) bx0 (o2 ks) (.int .i64 (i : Int)) = nxt v ks i (termX v[i]) := by
  have e1 : v[i]? = some v[i] := List.getElem?_eq_getElem hi
  have hp := pr_02 v v[i] hl h ks hks i (by omega)
  have hlast : ∀ x, ref36_Of.l0 (bv v) bx0 (.boxv 7 (stX 12 false) [(6, .own 7 (encEs ks ++ [encE x])), (3, .own 1 []), (4, .own 8 [])]) (.int .i64 (w64 ((i : Int) + 1))) = nxt v ks i (some x) := fun x => by
    rw [encEs_snoc, w64_succ (by omega)]; rfl
  unfold bv bx0 o2 stX at hp ⊢
  unfold bv bx0 stX at hlast
  rw [ref36_Of.l0_eq2]
  simp only [gc0, asL8, encV_len]
  rw [decide_eq_true (by omega), ifT, idx_at (encT_at e1), g0, asI_, termX_eq]
  by_cases h4 : v[i].k < 4
  · rw [decide_eq_true h4, ifT, scalar36_is v[i] (by omega), someB, asC7_, if_neg (show ¬ v[i].k = 5 by omega), if_neg (show ¬ v[i].k = 4 by omega), ref36_Of.j1_eq3, g0, asI_, decide_eq_false (by omega), ifF, gOK (by rw [encEs_len, List.length_singleton]; omega), guT]
    exact hlast _
  · rw [decide_eq_false h4, ifF, ref36_Of.j1_eq4, g0, asI_]
    by_cases h5 : v[i].k = 5
    · rw [decide_eq_false (by omega), ifF, if_pos h5, gOK (by rw [encEs_len, List.length_singleton]; omega), guT]
      exact hlast (lf 4 5)
    · have h44 : v[i].k = 4 := by omega
      rw [decide_eq_true h44, ifT, if_neg h5, if_pos h44, g6, asB_]
      exact hp

def fin36 (l : List Ex) : Option AV := if l.length = 1 then (match l with | x :: _ => some (.tup [.agg 7 (encE x), .bool true]) | [] => none) else some (.tup [.agg 7 (encE (.mk 12 0 [] [] [] false l)), .bool (decide ((l.length : Int) ≤ 32))])
def fin36O (ks : List Ex) : Option (List Ex) → Option AV
  | none => noX
  | some l => fin36 (ks ++ l)
theorem of_loop (v : List Tm) (hv : v.length ≤ 1073741824) (hk : ∀ t ∈ v, 1 ≤ t.k ∧ t.k ≤ 5) (hl : ∀ t ∈ v, t.fs.length ≤ 1073741824) (h : ∀ t ∈ v, ∀ f ∈ t.fs, OfR f.v) : ∀ (d i : Nat) (ks : List Ex), i + d = v.length → ks.length = i → 
    ref36_Of.l0 (bv v) bx0 (o2 ks) (.int .i64 (i : Int)) = fin36O ks (termsX (v.drop i))
  | 0, i, ks, hi, hks => by
    unfold bv bx0 o2 stX
    rw [ref36_Of.l0_eq2]
    simp only [gc0, asL8, encV_len, encEs_len]
    rw [decide_eq_false (by omega), ifF, dropNil (by omega), termsX]
    show _ = fin36 (ks ++ [])
    rw [List.append_nil]
    unfold fin36
    by_cases h1 : ks.length = 1
    · rw [decide_eq_true (by omega), ifT, if_pos h1]
      match ks, h1 with
      | [x], _ => rfl
    · rw [decide_eq_false (by omega), ifF, if_neg h1]
      rfl
  | d + 1, i, ks, hi, hks => by
    have h1 : i < v.length := by omega
    have hm := List.getElem_mem h1
    rw [st362 v hv i h1 (hk _ hm) (hl _ hm) (h _ hm) ks (by omega), dropCons h1]
    have hx : termsX (v[i] :: v.drop (i + 1)) = (termX v[i]).bind fun x => (termsX (v.drop (i + 1))).map fun l => x :: l := by rw [termsX]
    rw [hx]
    cases termX v[i] with
    | none => rfl
    | some x =>
      rw [nxt, of_loop v hv hk hl h d (i + 1) (ks ++ [x]) (by omega) (by simp; omega), Option.bind_some]
      cases termsX (v.drop (i + 1)) with
      | none => rfl
      | some l => simp [fin36O]
theorem termsX_len : ∀ {v : List Tm} {l : List Ex}, termsX v = some l → l.length = v.length
  | [], l, h => by rw [termsX] at h; cases h; rfl
  | t :: r, l, h => by
    rw [termsX] at h
    obtain ⟨x, _, h⟩ := Option.bind_eq_some_iff.1 h
    obtain ⟨q, hq, rfl⟩ := Option.map_eq_some_iff.1 h
    rw [List.length_cons, List.length_cons, termsX_len hq]
theorem of_of (v : List Tm) (hv : v.length ≤ 1073741824) (hk : ∀ t ∈ v, 1 ≤ t.k ∧ t.k ≤ 5) (hl : ∀ t ∈ v, t.fs.length ≤ 1073741824) (h : ∀ t ∈ v, ∀ f ∈ t.fs, OfR f.v) : OfR v := by
  unfold OfR
  rw [ref36_Of.f_eq]
  simp only [gc0, asL8, encV_len]
  by_cases hn : v.length = 0
  · obtain rfl := List.eq_nil_of_length_eq_zero hn
    refine ⟨lf 5 0, ?_, fun y hy => by rw [valX] at hy; cases hy; rfl⟩
    rw [valX]; rfl
  · rw [decide_eq_false (by omega), ifF]
    have h1 : 0 < v.length := by omega
    have hm := List.getElem_mem h1
    have hx : termsX v = (termX v[0]).bind fun x => (termsX (v.drop 1)).map fun l => x :: l := by
      have := dropCons h1
      rw [List.drop_zero] at this
      conv => lhs; rw [this, termsX]
    have hst := st361 v hv 0 h1 (hk _ hm) (hl _ hm) (h _ hm) [] (by simp) rfl
    have hall : ref36_Of.l0 (bv v) bx0 o1 (.int .i64 ((0 : Nat) : Int)) = fin36O [] (termsX v) := by
      rw [hst, hx]
      cases termX v[0] with
      | none => rfl
      | some x =>
        rw [nxt, of_loop v hv hk hl h (v.length - 1) (0 + 1) ([] ++ [x]) (by omega) (by simp), Option.bind_some]
        cases termsX (v.drop 1) with
        | none => rfl
        | some l => rfl
    have hgo : ∀ r, ref36_Of.l0 (bv v) bx0 o1 (.int .i64 ((0 : Nat) : Int)) = r → ref36_Of.l0 (AV.boxv 1 [.sl 8 (encV v)] []) (AV.boxv 7 [AV.int .i64 0, AV.int .i64 0, AV.str [], AV.sl 1 [], AV.sl 8 [], AV.bool false, AV.sl 7 []] [(3, AV.own 1 []), (4, AV.own 8 []), (6, AV.own 7 [])]) (AV.boxv 7 [AV.int .i64 12, AV.int .i64 0, AV.str [], AV.sl 1 [], AV.sl 8 [], AV.bool false, AV.sl 7 []] [(3, AV.own 1 []), (4, AV.own 8 []), (6, AV.own 7 [])]) (AV.int .i64 0) = r := fun r h => h
    rw [hgo _ hall]
    have hone : ∀ t, v = [t] → termsX v = (termX t).map fun x => [x] := fun t ht => by
      subst ht
      have : ∀ q, termsX (t :: q) = (termX t).bind fun x => (termsX q).map fun l => x :: l := fun q => by rw [termsX]
      rw [this, termsX]
      cases termX t <;> rfl
    by_cases h11 : v.length = 1
    · obtain ⟨t, rfl⟩ : ∃ t, v = [t] := by
        match v, h11 with
        | [t], _ => exact ⟨t, rfl⟩
      rw [hone t rfl, valX]
      cases termX t with
      | none => exact ⟨lf 0 0, rfl, fun y hy => by cases hy⟩
      | some x => exact ⟨x, rfl, fun y hy => by cases hy; rfl⟩
    · by_cases h32 : v.length ≤ 32
      · rw [valX_many (by omega) h32]
        cases ht : termsX v with
        | none => exact ⟨lf 0 0, rfl, fun y hy => by cases hy⟩
        | some l =>
          have hll := termsX_len ht
          refine ⟨.mk 12 0 [] [] [] false l, ?_, fun y hy => by cases hy; rfl⟩
          show fin36 ([] ++ l) = _
          rw [List.nil_append]
          unfold fin36
          rw [if_neg (by omega), decide_eq_true (by omega)]; rfl
      · rw [valX_long (by omega)]
        cases ht : termsX v with
        | none => exact ⟨lf 0 0, rfl, fun y hy => by cases hy⟩
        | some l =>
          have hll := termsX_len ht
          refine ⟨.mk 12 0 [] [] [] false l, ?_, fun y hy => by cases hy⟩
          show fin36 ([] ++ l) = _
          rw [List.nil_append]
          unfold fin36
          rw [if_neg (by omega), decide_eq_false (by omega)]; rfl
/-- The document's Of. -/
theorem of36_is (v : List Tm) (hz : szV v ≤ 1073741824) (hk : KOK v) : OfR v := by
  have hlen := szV_len v
  cases hk with
  | mk _ h h' =>
    have hf : ∀ t ∈ v, t.fs.length ≤ 1073741824 := fun t ht => by
      have h1 := szF_len t.fs
      have h2 := mem_szT (v := v) ht
      rw [szT_fs] at h2
      omega
    refine of_of v (by omega) h hf fun t ht f hf => ?_
    have h3 := szV_dp ht hf
    exact of36_is f.v (by omega) (h' t ht f hf)
termination_by szV v
decreasing_by have := szV_dp ht hf; omega
end Go.Proofs.YtmdimhcjogjcgaaGreatDoor.Xp
