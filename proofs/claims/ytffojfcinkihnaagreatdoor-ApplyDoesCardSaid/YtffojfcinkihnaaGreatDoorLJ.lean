/- Several texts of mine in one (merge.py). -/
import Derived.Test.YtffojfcinkihnaaGreatDoorLC
import Derived.Lib.ItoaLen
import Derived.Lib.ItoaMem
set_option linter.unusedVariables false
set_option linter.unusedSimpArgs false
set_option linter.unusedSectionVars false
set_option linter.deprecated false
set_option linter.unnecessarySimpa false
/- Texts of numbers; a choice made firm; filling as the document has it. -/
namespace Go.Proofs.YtffojfcinkihnaaGreatDoor.Lat
open Go.Proofs.YtffojfcinkihnaaGreatDoor.Abs
theorem itoa_pos' (n : Int) (h0 : ¬ n < 0) : Lib.itoa n = Lib.decDigits n.toNat := by unfold Lib.itoa; rw [if_neg h0]
theorem itoa_neg' (n : Int) (h0 : n < 0) : Lib.itoa n = 45 :: Lib.decDigits n.natAbs := by unfold Lib.itoa; rw [if_pos h0]
theorem dec_small' {u : Nat} (h : u < 10) : Lib.decDigits u = [UInt8.ofNat (48 + u)] := by rw [Lib.decDigits, dif_pos h]
theorem dec_big' {u : Nat} (h : ¬ u < 10) : Lib.decDigits u = Lib.decDigits (u / 10) ++ [UInt8.ofNat (48 + u % 10)] := by rw [Lib.decDigits, dif_neg h]
theorem one_byte {α : Type} (u : Nat) (h : u < 10) (n : Int) (hn : n = ((48 + u : Nat) : Int)) (k : List UInt8 → Option α) : bytesK [[AV.int .u8 (IntKind.wrap .u8 n)]] k = k [UInt8.ofNat (48 + u)] := by
  have : IntKind.wrap .u8 n = ((48 + u : Nat) : Int) := by
    subst hn; simp [IntKind.wrap, IntKind.bits, IntKind.signed]; omega
  rw [this]
  rfl
theorem dec_len (u : Nat) (h : u < 9223372036854775809) : (Lib.decDigits u).length ≤ 20 := by
  rw [Lib.decDigits_length]; exact Lib.nDigits_le20 u (by omega)
theorem text1_is (m : Nat) : ∀ (n : Int), n.natAbs ≤ m → -9223372036854775808 ≤ n → n ≤ 9223372036854775807 → ref01_Text (.int .i64 n) = some (.str (Lib.itoa n)) := by
  induction m using Nat.strongRecOn with
  | _ m ih =>
    intro n hm h0 h1
    rw [ref01_Text.f_eq]
    simp only [andK, someB]
    by_cases hp : 0 ≤ n
    · obtain ⟨u, rfl⟩ := Int.eq_ofNat_of_zero_le hp
      rw [itoa_pos' _ (by omega), Int.toNat_natCast]
      by_cases h10 : u < 10
      · rw [decide_eq_true hp, decide_eq_true (p := (u : Int) < 10) (by omega), Bool.and_self, ifT, one_byte u h10 _ (by rw [w64_id (by omega)]; omega), dec_small' h10]
      · rw [decide_eq_true hp, decide_eq_false (p := (u : Int) < 10) (by omega), Bool.and_false, ifF, decide_eq_true (by omega), ifT]
        have e : w64 (Int.tdiv (u : Int) 10) = ((u / 10 : Nat) : Int) := by rw [Int.tdiv_eq_ediv_of_nonneg hp, w64_id (by omega)]; omega
        rw [e, ih (u / 10) (by omega) _ (by omega) (by omega) (by omega)]
        simp only [someB, asS_]
        have e2 : w64 (48 + Int.tmod (u : Int) 10) = ((48 + u % 10 : Nat) : Int) := by
          rw [Int.tmod_eq_emod_of_nonneg hp, w64_id (by omega)]; omega
        rw [one_byte (u % 10) (by omega) _ e2, itoa_pos' _ (by omega), Int.toNat_natCast]
        have := dec_len (u / 10) (by omega)
        rw [show Nat.ble ((Lib.decDigits (u / 10)).length + [UInt8.ofNat (48 + u % 10)].length) lim = true by rw [Nat.ble_eq]; simp only [lim, List.length_cons, List.length_nil]; omega, guT, dec_big' h10]
    · obtain ⟨u, hu⟩ : ∃ u : Nat, n = -(u : Int) := ⟨n.natAbs, by omega⟩
      subst hu
      have hu0 : 0 < u := by omega
      rw [itoa_neg' _ (by omega), show (-(u : Int)).natAbs = u by omega]
      have em : w64 (48 + w64 (0 - Int.tmod (-(u : Int)) 10)) = ((48 + u % 10 : Nat) : Int) := by
        rw [Int.neg_tmod, show (0 : Int) - -Int.tmod (u : Int) 10 = Int.tmod (u : Int) 10 by omega, Int.tmod_eq_emod_of_nonneg (by omega), w64_id (n := (u : Int) % 10) (by omega), w64_id (by omega)]; omega
      rw [decide_eq_false (p := 0 ≤ -(u : Int)) (by omega), Bool.false_and, ifF, decide_eq_false (by omega), ifF, one_byte (u % 10) (by omega) _ em]
      by_cases h10 : u < 10
      · rw [decide_eq_true (by omega), ifT, dec_small' h10, Nat.mod_eq_of_lt h10]; rfl
      · have ed : w64 (Int.tdiv (-(u : Int)) 10) = -((u / 10 : Nat) : Int) := by
          rw [Int.neg_tdiv, Int.tdiv_eq_ediv_of_nonneg (by omega), w64_id (by omega)]; omega
        rw [decide_eq_false (by omega), ifF, ed, ih (u / 10) (by omega) _ (by omega) (by omega) (by omega)]
        simp only [someB, asS_]
        rw [one_byte (u % 10) (by omega) _ em]
        rw [itoa_neg' _ (by omega), show (-((u / 10 : Nat) : Int)).natAbs = u / 10 by omega]
        have := dec_len (u / 10) (by omega)
        rw [show Nat.ble ((45 :: Lib.decDigits (u / 10)).length + [UInt8.ofNat (48 + u % 10)].length) lim = true by rw [Nat.ble_eq]; simp only [lim, List.length_cons, List.length_nil]; omega, guT, dec_big' h10]
        rfl
def inI (n : Int) : Prop := -9223372036854775808 ≤ n ∧ n ≤ 9223372036854775807
theorem textR_is {n : Int} (h : inI n) : ref01_Text (.int .i64 n) = some (.str (Lib.itoa n)) := text1_is n.natAbs n (Nat.le_refl _) h.1 h.2
/-! The remainder -/
theorem modR_is {p m : Int} (hp : inI p) (h0 : 0 < m) (h1 : m ≤ 36028797018963968) : ref35_mod (.int .i64 p) (.int .i64 m) = some (.int .i64 (p % m)) := by
  unfold inI at hp
  rw [ref35_mod.f_eq, decide_eq_false (by omega), Bool.not_false, guT, guT]
  congr 2
  by_cases hneg : 0 ≤ p
  · have hlt := Int.emod_lt_of_pos p h0
    have hnn := Int.emod_nonneg p (show m ≠ 0 by omega)
    rw [Int.tmod_eq_emod_of_nonneg hneg, w64_id (by omega), Int.tmod_eq_emod_of_nonneg (by omega), Int.add_emod_right, Int.emod_emod]
  · have ht : Int.tmod p m = -((-p) % m) := by rw [← Int.tmod_eq_emod_of_nonneg (a := -p) (by omega), Int.neg_tmod, Int.neg_neg]
    have hlt' := Int.emod_lt_of_pos (-p) h0
    have hnn' := Int.emod_nonneg (-p) (show m ≠ 0 by omega)
    rw [ht, w64_id (by omega), Int.tmod_eq_emod_of_nonneg (by omega)]
    have h1 : p = (-((-p) % m) + m) + m * (-((-p) / m) - 1) := by
      have := Int.emod_add_mul_ediv (-p) m
      rw [Int.mul_sub, Int.mul_neg]; omega
    rw [show p % m = ((-((-p) % m) + m) + m * (-((-p) / m) - 1)) % m by rw [← h1], Int.add_mul_emod_self_left]
theorem scal2 {t : Tm} (h : scal t = true) (hk : t.k = 2) : -9007199254740992 ≤ t.lo ∧ t.lo ≤ t.hi ∧ t.hi ≤ 9007199254740992 := by
  obtain ⟨k, lo, hi, s, a, m, o, fs⟩ := t
  rw [scal] at h
  split at h
  · cases h
  · rw [if_neg (show ¬ k = 3 from fun e => by simp [Tm.k] at hk; omega), if_neg (show ¬ k = 1 from fun e => by simp [Tm.k] at hk; omega), if_pos (by simpa [Tm.k] using hk)] at h
    simp only [Bool.and_eq_true, decide_eq_true_eq] at h
    exact ⟨h.1.1, h.1.2.1, h.1.2.2.1⟩
theorem firm_eq (N : Int → Bs) (t : Tm) (p : Int) : firm N t p = if t.k = 1 then .mk 1 (p % 2) (p % 2) [] false false false [] else if t.k = 2 then .mk 2 (t.lo + p % (t.hi - t.lo + 1)) (t.lo + p % (t.hi - t.lo + 1)) [] false false false [] else .mk 3 0 0 (116 :: N p) false false false [] := by cases t; rw [firm]; rfl
theorem lim_t {p : Int} (h : inI p) : Nat.ble ([(116 : UInt8)].length + (Lib.itoa p).length) lim = true := by
  have := Lib.itoa_length_le p h.1 h.2
  rw [Nat.ble_eq]; simp only [lim, List.length_cons, List.length_nil]; omega
/-- The document's. -/
theorem atomR_is {t : Tm} (h : scal t = true) {p : Int} (hp : inI p) : ref35_atom (.agg 8 (encT t)) (.int .i64 p) = some (.agg 8 (encT (firm Lib.itoa t p))) := by
  rw [ref35_atom.f_eq, firm_eq]
  simp only [g0, g1, g2, asI_]
  by_cases h1 : t.k = 1
  · rw [decide_eq_true h1, ifT, if_pos h1, modR_is hp (by omega) (by omega)]
    simp only [someB, asI_]; rfl
  rw [decide_eq_false h1, ifF, if_neg h1]
  by_cases h2 : t.k = 2
  · have hb := scal2 h h2
    have hm : 0 < t.hi - t.lo + 1 ∧ t.hi - t.lo + 1 ≤ 36028797018963968 := by omega
    have hlt := Int.emod_lt_of_pos p hm.1
    have hnn := Int.emod_nonneg p (show t.hi - t.lo + 1 ≠ 0 by omega)
    rw [decide_eq_true h2, ifT, if_pos h2, w64_id (n := t.hi - t.lo) (by omega), w64_id (n := t.hi - t.lo + 1) (by omega), modR_is hp hm.1 hm.2]
    simp only [someB, asI_]
    rw [w64_id (by omega)]; rfl
  · rw [decide_eq_false h2, ifF, if_neg h2, textR_is hp]
    simp only [someB, asS_]
    exact (congrArg (fun b => guardK b _) (lim_t hp)).trans rfl
/-- The texts of numbers in range. -/
def Ni (n : Int) : Bs := if -9223372036854775808 ≤ n ∧ n ≤ 9223372036854775807 then Lib.itoa n else []
theorem Ni_in {p : Int} (h : inI p) : Ni p = Lib.itoa p := if_pos h
theorem firm_Ni (t : Tm) {p : Int} (h : inI p) : firm Ni t p = firm Lib.itoa t p := by rw [firm_eq, firm_eq, Ni_in h]
theorem atomN_is {t : Tm} (h : scal t = true) {p : Int} (hp : inI p) : ref35_atom (.agg 8 (encT t)) (.int .i64 p) = some (.agg 8 (encT (firm Ni t p))) := by rw [firm_Ni t hp]; exact atomR_is h hp
end Go.Proofs.YtffojfcinkihnaaGreatDoor.Lat
/- Filling, as the document has it. -/
namespace Go.Proofs.YtffojfcinkihnaaGreatDoor.Lat
open Go.Proofs.YtffojfcinkihnaaGreatDoor.Abs
def withF (t : Tm) (fs : List Fd) : Tm := .mk t.k t.lo t.hi t.s t.a t.m t.o fs
theorem set7 (t : Tm) (fs : List Fd) : List.set (encT t) 7 (.sl 2 (encF fs)) = encT (withF t fs) := by cases t; rfl
theorem fiT_eq (N : Int → Bs) (t : Tm) (p : List Int) : fiT N t p = if t.m = true then (firm N t (p.headD 0), p.tail) else (withF t (fiF N t.fs p).1, (fiF N t.fs p).2) := by cases t; rw [fiT]; rfl
theorem fiF_cons (N : Int → Bs) (f : Fd) (r : List Fd) (p : List Int) : fiF N (f :: r) p = (.mk f.n (fiL N f.v p).1 :: (fiF N r (fiL N f.v p).2).1, (fiF N r (fiL N f.v p).2).2) := by cases f; rw [fiF]; rfl
theorem fiL_one (N : Int → Bs) (t : Tm) (p : List Int) : fiL N [t] p = ([(fiT N t p).1], (fiT N t p).2) := by rw [fiL, fiL]
theorem firm_fs (N : Int → Bs) (t : Tm) (p : Int) : (firm N t p).fs = [] := by rw [firm_eq]; split <;> (try split) <;> rfl
theorem withF_nil {t : Tm} (h : t.fs = []) : withF t [] = t := by obtain ⟨k, lo, hi, s, a, m, o, fs⟩ := t; simp only [Tm.fs] at h; subst h; rfl
abbrev encP (p : List Int) : List (List AV) := p.map fun n => [AV.int .i64 n]
theorem encP_at {p : List Int} {i : Nat} {n : Int} (h : p[i]? = some n) : (encP p)[i]? = some [AV.int .i64 n] := by rw [encP, List.getElem?_map, h]; rfl
theorem m_scal {t : Tm} (h : okT Rn t = true) (hm : t.m = true) : scal t = true := by
  rw [okT_eq] at h
  split at h
  · obtain ⟨k, lo, hi, s, a, m, o, fs⟩ := t
    rw [anyT] at h
    simp only [Tm.m] at hm
    subst hm
    simp at h
  · split at h
    · rw [bareT_eq, hm] at h; simp at h
    · exact h
theorem m_not4 {t : Tm} (h : scal t = true) : t.fs = [] := (scal_facts h).2.1
theorem encF_app (a b : List Fd) : encF (a ++ b) = encF a ++ encF b := by rw [encF_map, encF_map, encF_map, List.map_append]
section
variable (picks : List Int) (hp : picks.length ≤ 1073741824) (hr : ∀ p ∈ picks, inI p)
include hp hr
/-- What filling gives. -/
def Filled (v : List Tm) : Prop := ∀ u : Nat, u ≤ picks.length → ∃ u' : Nat, ref35_fill (.agg 1 [.sl 8 (encV v)]) (.sl 1 (encP picks)) (.int .i64 (u : Int)) = some (.tup [.agg 1 [.sl 8 (encV (fiL Ni v (picks.drop u)).1)], .int .i64 (u' : Int)]) ∧ (fiL Ni v (picks.drop u)).2 = picks.drop u' ∧ u' ≤ picks.length
theorem fill_fs (c3 : List AV) (l4 l5 l6 l7 : List (List AV)) (n8 : Int) (c : Tm) (hl : c.fs.length ≤ 1073741824) (h7 : l7.length ≤ 1073741824) (h : ∀ f ∈ c.fs, Filled picks f.v) :
    ∀ (d i u : Nat) (acc : List Fd), i + d = c.fs.length → acc.length = i → u ≤ picks.length → ∃ u' : Nat,
      ref35_fill.l3 (.sl 1 (encP picks)) (.int .i64 (u : Int)) (.boxv 1 c3 []) (.boxv 1 [.sl 8 l4] [(0, .own 8 l5)]) (.boxv 1 [.sl 8 l6] [(0, .own 8 l7)]) (.int .i64 n8) (.boxv 8 (encT c) []) (.own 2 (encF acc)) (.int .i64 (i : Int)) =
      ref35_fill.l0 (.sl 1 (encP picks)) (.int .i64 (u' : Int)) (.boxv 1 c3 []) (.boxv 1 [.sl 8 l4] [(0, .own 8 l5)]) (.boxv 1 [.sl 8 l6] [(0, .own 8 (l7 ++ [encT (withF c (acc ++ (fiF Ni (c.fs.drop i) (picks.drop u)).1))]))]) (.int .i64 (w64 (n8 + 1))) ∧
      (fiF Ni (c.fs.drop i) (picks.drop u)).2 = picks.drop u' ∧ u' ≤ picks.length
  | 0, i, u, acc, hi, ha, hu => by
    refine ⟨u, ?_, ?_, hu⟩
    · rw [ref35_fill.l3_eq]
      simp only [g7, asL2, encF_len, set7]
      rw [decide_eq_false (by omega), ifF, dropNil (by omega), fiF]
      simp only [List.append_nil]
      rw [show Nat.ble (l7.length + [encT (withF c acc)].length) lim = true by rw [Nat.ble_eq]; simp only [lim, List.length_cons, List.length_nil]; omega, guT]
    · rw [dropNil (by omega), fiF]
  | d + 1, i, u, acc, hi, ha, hu => by
    have h1' : i < c.fs.length := by omega
    have e1 : c.fs[i]? = some c.fs[i] := List.getElem?_eq_getElem h1'
    obtain ⟨u1, k1, k2, k3⟩ := h _ (List.getElem_mem h1') u hu
    obtain ⟨u', q1, q2, q3⟩ := fill_fs c3 l4 l5 l6 l7 n8 c hl h7 h d (i + 1) u1 (acc ++ [.mk c.fs[i].n (fiL Ni c.fs[i].v (picks.drop u)).1]) (by omega) (by simp [ha]) k3
    refine ⟨u', ?_, ?_, q3⟩
    · rw [ref35_fill.l3_eq, dropCons h1', fiF_cons]
      simp only [g7, asL2, encF_len, idx_at (encFd_at e1), h0, h1, asS_, k1, someB, asT2_, asI_]
      have hsp : asC 1 (AV.agg 1 [AV.sl 8 (encV (fiL Ni c.fs[i].v (picks.drop u)).1)]) = fun (k : List AV → Option AV) => k [AV.sl 8 (encV (fiL Ni c.fs[i].v (picks.drop u)).1)] := rfl
      rw [decide_eq_true (by omega), ifT, hsp]
      simp only
      have hs2 : splice [AV.str c.fs[i].n, AV.sl 8 []] 1 [AV.sl 8 (encV (fiL Ni c.fs[i].v (picks.drop u)).1)] = encFd (.mk c.fs[i].n (fiL Ni c.fs[i].v (picks.drop u)).1) := rfl
      rw [hs2, show Nat.ble (acc.length + [encFd (.mk c.fs[i].n (fiL Ni c.fs[i].v (picks.drop u)).1)].length) lim = true by rw [Nat.ble_eq]; simp only [lim, List.length_cons, List.length_nil]; omega, guT]
      have hap : encF acc ++ [encFd (.mk c.fs[i].n (fiL Ni c.fs[i].v (picks.drop u)).1)] = encF (acc ++ [.mk c.fs[i].n (fiL Ni c.fs[i].v (picks.drop u)).1]) := by rw [encF_app]; rfl
      rw [hap, w64_succ (by omega), q1, k2]
      simp only [List.append_assoc, List.singleton_append]
    · rw [dropCons h1', fiF_cons, k2]; exact q2
theorem fill_of (v : List Tm) (hl : szV v ≤ 1073741824) (hok : okL Rn v = true) (hse : seL true v = true) (h : ∀ t ∈ v, ∀ f ∈ t.fs, okV Rn f.v = true → seL true f.v = true → Filled picks f.v) : Filled picks v := by
  intro u hu
  match v with
  | [] => simp [seL] at hse
  | _ :: _ :: _ => simp [seL] at hse
  | [t] =>
    have hs := mem_szT (v := [t]) (List.mem_cons_self ..)
    rw [szT_fs] at hs
    have hlen := szF_len t.fs
    have hT := okL_mem _ hok t (List.mem_cons_self ..)
    rw [seL] at hse
    have e1 : decide ((0 : Int) < (([t] : List Tm).length : Int)) = true := by simp
    have hend : ∀ (u' : Nat) (x : Tm), ref35_fill.l0 (.sl 1 (encP picks)) (.int .i64 (u' : Int)) (.boxv 1 [.sl 8 (encV [t])] []) (.boxv 1 [.sl 8 []] [(0, .own 8 [])]) (.boxv 1 [.sl 8 []] [(0, .own 8 ([] ++ [encT x]))]) (.int .i64 (w64 (0 + 1))) = some (.tup [.agg 1 [.sl 8 (encV [x])], .int .i64 (u' : Int)]) := fun u' x => by
      rw [ref35_fill.l0_eq]
      simp only [v0, asL8, encV_len]
      have : decide (w64 (0 + 1) < (([t] : List Tm).length : Int)) = false := by rw [w64_id (by omega)]; simp
      rw [this, ifF]; rfl
    rw [ref35_fill.f_eq, ref35_fill.l0_eq, fiL_one, fiT_eq]
    simp only [v0, asL8, encV_len, e1, ifT, idxV0, g5, asB_]
    cases hm : t.m with
    | true =>
      have hsc := m_scal hT hm
      rw [ifT, if_pos rfl]
      have key : ∀ (u' : Nat) (p : Int), inI p → u' ≤ picks.length → ref35_fill.j1 (.sl 1 (encP picks)) (.int .i64 (u' : Int)) (.boxv 1 [.sl 8 (encV [t])] []) (.boxv 1 [.sl 8 []] [(0, .own 8 [])]) (.boxv 1 [.sl 8 []] [(0, .own 8 [])]) (.int .i64 0) (.boxv 8 (encT t) []) (.int .i64 p) = some (.tup [.agg 1 [.sl 8 (encV [firm Ni t p])], .int .i64 (u' : Int)]) := fun u' p hpi hu' => by
        rw [ref35_fill.j1_eq, atomN_is hsc hpi]
        simp only [someB, asC8]
        rw [ref35_fill.j2_eq]
        have hff := firm_fs Ni t p
        obtain ⟨u2, q1, q2, q3⟩ := fill_fs picks hp hr [.sl 8 (encV [t])] [] [] [] [] 0 (firm Ni t p) (by rw [hff]; simp) (by simp) (fun f hf => by rw [hff] at hf; cases hf) 0 0 u' [] (by rw [hff]; rfl) rfl hu'
        rw [hff] at q1 q2
        simp only [List.drop_nil, fiF, List.append_nil] at q1 q2
        rw [e00] at q1
        have hu2 : u2 = u' := by
          have := congrArg List.length q2
          simp only [List.length_drop] at this
          omega
        subst hu2
        refine Eq.trans q1 ?_
        rw [withF_nil hff]
        exact hend _ _
      by_cases hlt : u < picks.length
      · have ep : picks[u]? = some picks[u] := List.getElem?_eq_getElem hlt
        refine ⟨u + 1, ?_, ?_, by omega⟩
        · rw [List.length_map, decide_eq_true (by omega), ifT, idx_at (encP_at ep)]
          simp only [getC0, asI_]
          rw [w64_succ (by omega), key (u + 1) _ (hr _ (List.getElem_mem hlt)) (by omega), dropCons hlt]; rfl
        · rw [dropCons hlt]; rfl
      · refine ⟨u, ?_, ?_, hu⟩
        · rw [List.length_map, decide_eq_false (by omega), ifF, key u 0 (by unfold inI; omega) hu, dropNil (by omega)]; rfl
        · rw [dropNil (by omega)]; rfl
    | false =>
      rw [ifF, if_neg (by simp), ref35_fill.j2_eq]
      have hF : ∀ f ∈ t.fs, Filled picks f.v := fun f hf => by
        rw [seT_eq] at hse
        rw [okT_eq] at hT
        simp only [Bool.and_eq_true, decide_eq_true_eq] at hse
        obtain ⟨h5, hse⟩ := hse
        rw [if_neg h5] at hT
        by_cases h4 : t.k = 4
        · rw [if_pos h4] at hT hse
          rw [Bool.and_eq_true] at hT
          have := okF_mem _ hT.2 f hf
          rw [seF_all, List.all_eq_true] at hse
          exact h t (List.mem_cons_self ..) f hf this (hse f hf)
        · rw [if_neg h4] at hT
          rw [m_not4 hT] at hf; cases hf
      obtain ⟨u2, q1, q2, q3⟩ := fill_fs picks hp hr [.sl 8 (encV [t])] [] [] [] [] 0 t (by omega) (by simp) hF t.fs.length 0 u [] (by omega) rfl hu
      rw [List.drop_zero] at q1 q2
      rw [e00] at q1
      refine ⟨u2, ?_, q2, q3⟩
      refine Eq.trans q1 ?_
      rw [List.nil_append]
      exact hend _ _
theorem fill_is : ∀ (v : List Tm), szV v ≤ 1073741824 → okL Rn v = true → seL true v = true → Filled picks v
  | v, hv, hok, hse => fill_of picks hp hr v hv hok hse fun t ht f hf ho hs => fill_is f.v (by have := szV_dp ht hf; omega) (okV_L ho) hs
termination_by v => szV v
decreasing_by have := szV_dp ht hf; omega
/-- The document's Fill. -/
theorem Fill35_is (v : List Tm) (hv : szV v ≤ 1073741824) : ref35_Fill (.agg 1 [.sl 8 (encV v)]) (.sl 1 (encP picks)) =
    if (okV Rn v && seL true v) = true then some (.tup [.agg 1 [.sl 8 (encV (fiL Ni v picks).1)], .int .i64 ((picks.length - (fiL Ni v picks).2.length : Nat) : Int), .int .i64 0]) else some (.tup [.agg 1 [.sl 8 []], .int .i64 0, .int .i64 1]) := by
  rw [ref35_Fill.f_eq, ready11_is v hv]
  simp only [someB, asB_]
  cases hb : okV Rn v && seL true v with
  | false => rfl
  | true =>
    rw [Bool.and_eq_true] at hb
    obtain ⟨u', q1, q2, q3⟩ := fill_is picks hp hr v hv (okV_L hb.1) hb.2 0 (by omega)
    rw [List.drop_zero, e00] at q1
    rw [List.drop_zero] at q2
    rw [Bool.not_true, ifF, if_pos rfl, q1, q2]
    have : picks.length - (picks.drop u').length = u' := by rw [List.length_drop]; omega
    rw [this]; rfl
end
end Go.Proofs.YtffojfcinkihnaaGreatDoor.Lat
/- Of filling, and of the order: plain laws. -/
namespace Go.Proofs.YtffojfcinkihnaaGreatDoor.Lat
open Go.Proofs.YtffojfcinkihnaaGreatDoor.Abs
mutual
theorem szT_fi : ∀ (t : Tm) (p : List Int), szT (fiT Ni t p).1 ≤ szT t
  | .mk k lo hi s a m o fs, p => by
    rw [fiT]
    split
    · rw [szT_fs, firm_fs, szT_fs]; simp [szF]
    · rw [szT, szT]; have := szF_fi fs p; omega
theorem szF_fi : ∀ (fs : List Fd) (p : List Int), szF (fiF Ni fs p).1 ≤ szF fs
  | [], p => by rw [fiF]; exact Nat.le_refl _
  | .mk n v :: r, p => by rw [fiF, szF, szF]; have := szV_fi v p; have := szF_fi r (fiL Ni v p).2; omega
theorem szV_fi : ∀ (v : List Tm) (p : List Int), szV (fiL Ni v p).1 ≤ szV v
  | [], p => by rw [fiL]; exact Nat.le_refl _
  | t :: r, p => by rw [fiL, szV, szV]; have := szT_fi t p; have := szV_fi r (fiT Ni t p).2; omega
end
theorem cmpI_self (a : Int) : cmpI a a = 0 := cmpI_0.2 rfl
theorem cmpS_self (a : Bs) : cmpS a a = 0 := cmpS_0.2 rfl
mutual
theorem cmpT_self : ∀ t : Tm, cmpT t t = 0
  | .mk k lo hi s a m o fs => by rw [cmpT_eq]; simp only [cmpI_self, cmpS_self, Int.sub_self, cmpF_self fs, Tm.fs, fst0_zero, and_self]
theorem cmpF_self : ∀ fs : List Fd, cmpF fs fs = 0
  | [] => rfl
  | .mk n v :: r => by rw [cmpF, fst0_zero, fst0_zero]; exact ⟨⟨cmpS_self n, cmpV_self v⟩, cmpF_self r⟩
theorem cmpV_self : ∀ v : List Tm, cmpV v v = 0
  | [] => rfl
  | t :: r => by rw [cmpV, fst0_zero]; exact ⟨cmpT_self t, cmpV_self r⟩
end
mutual
theorem encT_inj : ∀ t u : Tm, encT t = encT u → t = u
  | .mk k lo hi s a m o fs, .mk k' lo' hi' s' a' m' o' fs', h => by
    rw [encT, encT] at h
    simp only [List.cons.injEq, AV.int.injEq, AV.str.injEq, AV.bool.injEq, AV.sl.injEq, true_and, and_true] at h
    obtain ⟨rfl, rfl, rfl, rfl, rfl, rfl, rfl, h⟩ := h
    rw [encF_inj fs fs' h]
theorem encF_inj : ∀ a b : List Fd, encF a = encF b → a = b
  | [], [], _ => rfl
  | [], .mk _ _ :: _, h => by rw [encF, encF] at h; cases h
  | .mk _ _ :: _, [], h => by rw [encF, encF] at h; cases h
  | .mk n v :: r, .mk n' v' :: r', h => by
    rw [encF, encF] at h
    simp only [List.cons.injEq, AV.str.injEq, AV.sl.injEq, true_and, and_true] at h
    obtain ⟨⟨rfl, h1⟩, h2⟩ := h
    rw [encV_inj v v' h1, encF_inj r r' h2]
theorem encV_inj : ∀ a b : List Tm, encV a = encV b → a = b
  | [], [], _ => rfl
  | [], _ :: _, h => by rw [encV, encV] at h; cases h
  | _ :: _, [], h => by rw [encV, encV] at h; cases h
  | t :: r, t' :: r', h => by
    rw [encV, encV] at h
    simp only [List.cons.injEq] at h
    rw [encT_inj t t' h.1, encV_inj r r' h.2]
end
theorem encP_inj : ∀ a b : List Int, encP a = encP b → a = b
  | [], [], _ => rfl
  | [], _ :: _, h => by simp at h
  | _ :: _, [], h => by simp at h
  | t :: r, t' :: r', h => by
    simp only [encP, List.map_cons, List.cons.injEq, AV.int.injEq, true_and, and_true] at h
    rw [h.1, encP_inj r r' h.2]
end Go.Proofs.YtffojfcinkihnaaGreatDoor.Lat
