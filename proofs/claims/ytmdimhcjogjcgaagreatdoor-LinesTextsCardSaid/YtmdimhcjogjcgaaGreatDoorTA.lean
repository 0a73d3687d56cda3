/- Values of the lattice as plain trees: the order, rightness, 'below', with and without limits. -/
import Derived.Test.YtmdimhcjogjcgaaGreatDoorMH
import Derived.Test.YtmdimhcjogjcgaaGreatDoorMC
set_option linter.unusedVariables false
set_option linter.unusedSimpArgs false
set_option linter.unusedSectionVars false
set_option linter.deprecated false
set_option linter.unnecessarySimpa false
namespace Go.Proofs.YtmdimhcjogjcgaaGreatDoor.Lat
open Go.Proofs.YtmdimhcjogjcgaaGreatDoor.Abs (bytesLt)

abbrev Bs := List UInt8
mutual
inductive Tm where
  | mk (k lo hi : Int) (s : Bs) (a m o : Bool) (fs : List Fd)
inductive Fd where
  | mk (n : Bs) (v : List Tm)
end
def Tm.k : Tm → Int | .mk k _ _ _ _ _ _ _ => k
def Tm.lo : Tm → Int | .mk _ x _ _ _ _ _ _ => x
def Tm.hi : Tm → Int | .mk _ _ x _ _ _ _ _ => x
def Tm.s : Tm → Bs | .mk _ _ _ x _ _ _ _ => x
def Tm.a : Tm → Bool | .mk _ _ _ _ x _ _ _ => x
def Tm.m : Tm → Bool | .mk _ _ _ _ _ x _ _ => x
def Tm.o : Tm → Bool | .mk _ _ _ _ _ _ x _ => x
def Tm.fs : Tm → List Fd | .mk _ _ _ _ _ _ _ x => x
def Fd.n : Fd → Bs | .mk n _ => n
def Fd.v : Fd → List Tm | .mk _ v => v

def cmpI (x y : Int) : Int := if x < y then -1 else if y < x then 1 else 0
def cmpS (x y : Bs) : Int := if bytesLt x y = true then -1 else if bytesLt y x = true then 1 else 0
def flag (b : Bool) : Int := if b = true then 1 else 0
/-- The first that is not 0. -/
def fst0 (n : Int) (k : Int) : Int := if n = 0 then k else n
mutual
def cmpT : Tm → Tm → Int
  | .mk k lo hi s a m o fs, t => fst0 (cmpI k t.k) (fst0 (cmpI lo t.lo) (fst0 (cmpI hi t.hi) (fst0 (cmpS s t.s) (fst0 (flag a - flag t.a) (fst0 (flag m - flag t.m) (fst0 (flag o - flag t.o) (cmpF fs t.fs)))))))
def cmpF : List Fd → List Fd → Int
  | [], [] => 0
  | [], _ :: _ => -1
  | _ :: _, [] => 1
  | .mk n v :: r, f :: q => fst0 (fst0 (cmpS n f.n) (cmpV v f.v)) (cmpF r q)
def cmpV : List Tm → List Tm → Int
  | [], [] => 0
  | [], _ :: _ => -1
  | _ :: _, [] => 1
  | t :: r, u :: q => fst0 (cmpT t u) (cmpV r q)
end
mutual
def wtT : Tm → Nat
  | .mk _ _ _ _ _ _ _ fs => 1 + wtF fs
def wtF : List Fd → Nat
  | [] => 0
  | .mk _ v :: r => wtV v + wtF r
def wtV : List Tm → Nat
  | [] => 0
  | t :: r => wtT t + wtV r
end
mutual
/-- How deep the fields' values of a term are. -/
def dpT : Tm → Nat
  | .mk _ _ _ _ _ _ _ fs => dpF fs
def dpF : List Fd → Nat
  | [] => 0
  | .mk _ v :: r => max (dpV v + 1) (dpF r)
def dpV : List Tm → Nat
  | [] => 0
  | t :: r => max (dpT t) (dpV r)
end
def depth (v : List Tm) : Nat := dpV v + 1

/-! Scalars -/
def single : Tm → Bool
  | .mk k lo hi _ a _ _ _ => if k = 3 then !a else decide (lo = hi)
def scal : Tm → Bool
  | .mk k lo hi s a m o fs =>
    if (o || !fs.isEmpty || (m && single (.mk k lo hi s a m o fs))) = true then false
    else if k = 3 then decide (lo = 0 ∧ hi = 0) && (if a = true then decide (s = []) else decide (s.length ≤ 256))
    else if k = 1 then decide (0 ≤ lo ∧ lo ≤ hi ∧ hi ≤ 1 ∧ s = []) && !a
    else if k = 2 then decide (-9007199254740992 ≤ lo ∧ lo ≤ hi ∧ hi ≤ 9007199254740992 ∧ s = []) && !a
    else false
def sameS : Tm → Tm → Bool
  | .mk k lo hi s a m o fs, .mk k' lo' hi' s' a' m' o' fs' => scal (.mk k lo hi s a m o fs) && scal (.mk k' lo' hi' s' a' m' o' fs') && decide (k = k' ∧ lo = lo' ∧ hi = hi' ∧ s = s') && (a == a') && (m == m')
/-- What two scalars have in common. -/
def meetS : Tm → Tm → Option Tm
  | .mk k lo hi s a m o fs, .mk k' lo' hi' s' a' m' o' fs' =>
    if (scal (.mk k lo hi s a m o fs) && scal (.mk k' lo' hi' s' a' m' o' fs') && decide (k = k')) = true then
      if min hi hi' < max lo lo' then none
      else if (a || a' || decide (s = s')) = true then
        some (.mk k (max lo lo') (min hi hi') (bif a then s' else s) (a && a') ((m || m') && !single (.mk k (max lo lo') (min hi hi') (bif a then s' else s) (a && a') false false [])) false [])
      else none
    else none
def belowS (a b : Tm) : Bool := match meetS a b with | some m => sameS m a | none => false

/-! Below -/
def findF : List Fd → Bs → Option (List Tm)
  | [], _ => none
  | .mk n v :: r, s => if n = s then some v else findF r s
def hasAll (a b : List Fd) : Bool := a.all fun f => (findF b f.n).isSome
mutual
def undT (a : Tm) : Tm → Bool
  | .mk k lo hi s x m o fs => decide (k = 5) || (if a.k ≠ 4 ∨ k ≠ 4 then belowS a (.mk k lo hi s x m o fs) else (!a.o || o) && (o || hasAll a.fs fs) && undF a.fs fs)
def undF (a : List Fd) : List Fd → Bool
  | [] => true
  | .mk n v :: r => (match findF a n with | some w => w.all (fun t => undA t v) | none => false) && undF a r
def undA (t : Tm) : List Tm → Bool
  | [] => false
  | u :: r => undT t u || undA t r
end
def undV (a b : List Tm) : Bool := a.all fun t => undA t b

/-! Rightness. 'R' tells which names are right. -/
section
variable (R : Bs → Bool)
def rises : Option Bs → Bs → Bool
  | none, _ => true
  | some q, n => bytesLt q n
def risF : Option Bs → List Fd → Bool
  | _, [] => true
  | p, .mk n _ :: r => R n && rises p n && risF (some n) r
def srtV : List Tm → Bool
  | t :: u :: r => decide (cmpT t u < 0) && srtV (u :: r)
  | _ => true
def indV (v : List Tm) : Bool := (List.range v.length).all fun i => (List.range v.length).all fun k => decide (i = k) || (match v[i]?, v[k]? with | some t, some u => !undT t u | _, _ => true)
def anyT : Tm → Bool
  | .mk _ lo hi s a m o fs => decide (lo = 0 ∧ hi = 0 ∧ s = []) && !a && !m && !o && fs.isEmpty
def bareT : Tm → Bool
  | .mk _ lo hi s a m _ fs => decide (lo = 0 ∧ hi = 0 ∧ s = []) && !a && !m && decide (fs.length ≤ 32) && risF R none fs
mutual
/-- Right, but for the limits of weight and depth. -/
def rcT : Tm → Bool
  | .mk k lo hi s a m o fs => if k = 5 then anyT (.mk k lo hi s a m o fs) else if k = 4 then bareT R (.mk k lo hi s a m o fs) && rcF fs else scal (.mk k lo hi s a m o fs)
def rcF : List Fd → Bool
  | [] => true
  | .mk _ v :: r => !v.isEmpty && (rcL v && srtV v && indV v) && rcF r
def rcL : List Tm → Bool
  | [] => true
  | t :: r => rcT t && rcL r
end
def rcV (v : List Tm) : Bool := rcL R v && srtV v && indV v
def limV (v : List Tm) : Bool := decide (wtV v ≤ 512) && decide (depth v ≤ 16)
mutual
/-- As the document has it: the limits are asked of each value again. -/
def okT : Tm → Bool
  | .mk k lo hi s a m o fs => if k = 5 then anyT (.mk k lo hi s a m o fs) else if k = 4 then bareT R (.mk k lo hi s a m o fs) && okF fs else scal (.mk k lo hi s a m o fs)
def okF : List Fd → Bool
  | [] => true
  | .mk _ v :: r => !v.isEmpty && (limV v && okL v && srtV v && indV v) && okF r
def okL : List Tm → Bool
  | [] => true
  | t :: r => okT t && okL r
end
def okV (v : List Tm) : Bool := limV v && okL R v && srtV v && indV v
mutual
/-- As the program has it: so deep at most. -/
def liT : Int → Tm → Bool
  | d, .mk k lo hi s a m o fs => if k = 5 then anyT (.mk k lo hi s a m o fs) else if k = 4 then bareT R (.mk k lo hi s a m o fs) && liF (d - 1) fs else scal (.mk k lo hi s a m o fs)
def liF : Int → List Fd → Bool
  | _, [] => true
  | d, .mk _ v :: r => !v.isEmpty && (decide (1 ≤ d) && decide (v.length ≤ 512) && liL d v && srtV v && indV v) && liF d r
def liL : Int → List Tm → Bool
  | _, [] => true
  | d, t :: r => liT d t && liL d r
end
def liV (d : Int) (v : List Tm) : Bool := decide (1 ≤ d) && decide (v.length ≤ 512) && liL R d v && srtV v && indV v

theorem len_wt : ∀ v : List Tm, v.length ≤ wtV v
  | [] => by simp [wtV]
  | .mk k lo hi s a m o fs :: r => by have := len_wt r; simp [wtV, wtT]; omega
mutual
theorem ok_rcT : ∀ t : Tm, wtT t ≤ 512 → dpT t ≤ 15 → okT R t = rcT R t
  | .mk k lo hi s a m o fs, h1, h2 => by
    rw [okT, rcT, ok_rcF fs (by simp [wtT] at h1; omega) (by simp [dpT] at h2; omega)]
theorem ok_rcF : ∀ fs : List Fd, wtF fs ≤ 512 → dpF fs ≤ 15 → okF R fs = rcF R fs
  | [], _, _ => by rw [okF, rcF]
  | .mk n v :: r, h1, h2 => by
    simp only [wtF, dpF] at h1 h2
    rw [okF, rcF, ok_rcL v (by omega) (by omega), ok_rcF r (by omega) (by omega)]
    have : limV v = true := by unfold limV depth; simp; omega
    rw [this]; simp
theorem ok_rcL : ∀ v : List Tm, wtV v ≤ 512 → dpV v ≤ 15 → okL R v = rcL R v
  | [], _, _ => by rw [okL, rcL]
  | t :: r, h1, h2 => by
    simp only [wtV, dpV] at h1 h2
    rw [okL, rcL, ok_rcT t (by omega) (by omega), ok_rcL r (by omega) (by omega)]
end
theorem ok_is (v : List Tm) : okV R v = (limV v && rcV R v) := by
  unfold okV rcV
  cases h : limV v with
  | false => simp
  | true =>
    unfold limV depth at h
    simp at h
    rw [ok_rcL R v (by omega) (by omega)]
    simp [Bool.and_assoc]
mutual
theorem li_rcT : ∀ (t : Tm) (d : Int), wtT t ≤ 512 → (dpT t : Int) < d → liT R d t = rcT R t
  | .mk k lo hi s a m o fs, d, h1, h2 => by
    rw [liT, rcT, li_rcF fs (d - 1) (by simp [wtT] at h1; omega) (by simp [dpT] at h2; omega)]
theorem li_rcF : ∀ (fs : List Fd) (d : Int), wtF fs ≤ 512 → (dpF fs : Int) ≤ d → liF R d fs = rcF R fs
  | [], _, _, _ => by rw [liF, rcF]
  | .mk n v :: r, d, h1, h2 => by
    simp only [wtF, dpF] at h1 h2
    have hl := len_wt v
    rw [liF, rcF, li_rcL v d (by omega) (by omega), li_rcF r d (by omega) (by omega)]
    have e1 : decide (1 ≤ d) = true := by simp; omega
    have e2 : decide (v.length ≤ 512) = true := by simp; omega
    rw [e1, e2]; simp
theorem li_rcL : ∀ (v : List Tm) (d : Int), wtV v ≤ 512 → (dpV v : Int) < d → liL R d v = rcL R v
  | [], _, _, _ => by rw [liL, rcL]
  | t :: r, d, h1, h2 => by
    simp only [wtV, dpV] at h1 h2
    rw [liL, rcL, li_rcT t d (by omega) (by omega), li_rcL r d (by omega) (by omega)]
end
mutual
theorem li_dpT : ∀ (t : Tm) (d : Int), 1 ≤ d → liT R d t = true → (dpT t : Int) < d
  | .mk k lo hi s a m o fs, d, h1, h2 => by
    rw [liT] at h2
    rw [dpT]
    split at h2
    · rw [anyT] at h2
      simp at h2
      rw [show fs = [] from h2.2, dpF]; omega
    · split at h2
      · simp at h2
        have := li_dpF fs (d - 1) (by omega) h2.2
        omega
      · rw [scal] at h2
        have : fs = [] := by
          by_cases hn : (o || !fs.isEmpty || (m && single (.mk k lo hi s a m o fs))) = true
          · rw [if_pos hn] at h2; cases h2
          · simp only [Bool.or_eq_true, not_or] at hn
            simpa using hn.1.2
        rw [this, dpF]; omega
theorem li_dpF : ∀ (fs : List Fd) (d : Int), 0 ≤ d → liF R d fs = true → (dpF fs : Int) ≤ d
  | [], d, h, _ => by rw [dpF]; omega
  | .mk n v :: r, d, h, h2 => by
    rw [liF] at h2
    simp at h2
    rw [dpF]
    have h3 := li_dpL v d h2.1.2.1.1.1.1 h2.1.2.1.1.2
    have h4 := li_dpF r d h h2.2
    omega
theorem li_dpL : ∀ (v : List Tm) (d : Int), 1 ≤ d → liL R d v = true → (dpV v : Int) < d
  | [], d, h, _ => by rw [dpV]; omega
  | t :: r, d, h, h2 => by
    rw [liL] at h2
    simp at h2
    rw [dpV]
    have h3 := li_dpT t d h h2.1
    have h4 := li_dpL r d h h2.2
    omega
end
/-- The program's rightness is the document's. -/
theorem li_ok (v : List Tm) : (liV R 16 v && decide (wtV v ≤ 512)) = okV R v := by
  rw [ok_is]
  unfold limV rcV
  by_cases hw : wtV v ≤ 512
  · have hl := len_wt v
    by_cases hd : depth v ≤ 16
    · have hd' := hd
      unfold depth at hd'
      unfold liV
      rw [li_rcL R v 16 hw (by omega)]
      have e2 : decide (v.length ≤ 512) = true := by simp; omega
      simp [hw, hd, e2, Bool.and_assoc]
    · have : liV R 16 v = false := by
        cases h : liV R 16 v with
        | false => rfl
        | true =>
          unfold liV at h
          simp at h
          have := li_dpL R v 16 (by omega) h.1.1.2
          unfold depth at hd
          omega
      simp [this, hd]
  · simp [hw]
end

theorem u8_lt (a b : UInt8) : a < b ↔ a.toNat < b.toNat := UInt8.lt_iff_toNat_lt
theorem blt_irr : ∀ x : Bs, bytesLt x x = false
  | [] => rfl
  | a :: x => by rw [bytesLt, blt_irr x]; simp
theorem blt_asym : ∀ x y : Bs, bytesLt x y = true → bytesLt y x = false
  | [], [], h => by simp [bytesLt] at h
  | [], _ :: _, _ => rfl
  | _ :: _, [], h => by simp [bytesLt] at h
  | a :: x, b :: y, h => by
    simp only [bytesLt, Bool.or_eq_true, decide_eq_true_eq, Bool.and_eq_true, beq_iff_eq, Bool.or_eq_false_iff, decide_eq_false_iff_not, Bool.and_eq_false_iff] at h ⊢
    rcases h with h | ⟨rfl, h⟩
    · refine ⟨fun h2 => ?_, .inl ?_⟩
      · rw [u8_lt] at h h2; omega
      · rw [beq_eq_false_iff_ne]; rintro rfl; rw [u8_lt] at h; omega
    · exact ⟨fun h2 => by rw [u8_lt] at h2; omega, .inr (blt_asym x y h)⟩
theorem blt_trans : ∀ x y z : Bs, bytesLt x y = true → bytesLt y z = true → bytesLt x z = true
  | _, _, [], _, h => by simp [bytesLt] at h
  | _, [], _ :: _, h, _ => by simp [bytesLt] at h
  | [], _ :: _, _ :: _, _, _ => rfl
  | a :: x, b :: y, c :: z, h, k => by
    simp only [bytesLt, Bool.or_eq_true, decide_eq_true_eq, Bool.and_eq_true, beq_iff_eq] at h k ⊢
    rcases h with h | ⟨rfl, h⟩ <;> rcases k with k | ⟨rfl, k⟩
    · left; rw [u8_lt] at *; omega
    · exact .inl h
    · exact .inl k
    · exact .inr ⟨rfl, blt_trans x y z h k⟩
theorem blt_total : ∀ x y : Bs, bytesLt x y = false → bytesLt y x = false → x = y
  | [], [], _, _ => rfl
  | [], _ :: _, h, _ => by simp [bytesLt] at h
  | _ :: _, [], _, h => by simp [bytesLt] at h
  | a :: x, b :: y, h, k => by
    simp only [bytesLt, Bool.or_eq_false_iff, decide_eq_false_iff_not, Bool.and_eq_false_iff] at h k
    have : a = b := UInt8.toNat_inj.1 (by have h1 := h.1; have k1 := k.1; rw [u8_lt] at h1 k1; omega)
    subst this
    have h2 := h.2.resolve_left (by simp)
    have k2 := k.2.resolve_left (by simp)
    rw [blt_total x y h2 k2]
theorem cmpS_0 {x y : Bs} : cmpS x y = 0 ↔ x = y := by
  unfold cmpS
  constructor
  · intro h
    split at h
    · omega
    · rename_i h1
      split at h
      · omega
      · rename_i h2
        exact blt_total x y (by simpa using h1) (by simpa using h2)
  · rintro rfl
    rw [blt_irr]; rfl
theorem cmpI_0 {x y : Int} : cmpI x y = 0 ↔ x = y := by unfold cmpI; split <;> (try split) <;> omega
section
variable (R : Bs → Bool)
theorem ris_lt : ∀ (fs : List Fd) (p : Bs), risF R (some p) fs = true → ∀ f ∈ fs, bytesLt p f.n = true
  | [], p, _, f, hf => by cases hf
  | .mk n v :: r, p, h, f, hf => by
    rw [risF] at h
    simp only [Bool.and_eq_true] at h
    rcases List.mem_cons.1 hf with rfl | hf
    · exact h.1.2
    · exact blt_trans _ _ _ h.1.2 (ris_lt r n h.2 f hf)
theorem ris_tail {p : Option Bs} {f : Fd} {r : List Fd} (h : risF R p (f :: r) = true) : risF R (some f.n) r = true := by
  obtain ⟨n, v⟩ := f
  rw [risF] at h
  simp only [Bool.and_eq_true] at h
  exact h.2
theorem find_mem : ∀ (fs : List Fd) (p : Option Bs), risF R p fs = true → ∀ f ∈ fs, findF fs f.n = some f.v
  | [], p, _, f, hf => by cases hf
  | .mk n v :: r, p, h, f, hf => by
    have h2 := ris_tail R h
    rw [findF]
    rcases List.mem_cons.1 hf with rfl | hf
    · exact if_pos rfl
    · rw [if_neg, find_mem r (some n) h2 f hf]
      intro e
      have := ris_lt R r n h2 f hf
      rw [e, blt_irr] at this
      cases this
end
theorem undF_all : ∀ (a fs : List Fd), undF a fs = true ↔ ∀ f ∈ fs, ∃ w, findF a f.n = some w ∧ undV w f.v = true
  | a, [] => by simp [undF]
  | a, .mk n v :: r => by
    rw [undF, Bool.and_eq_true, undF_all a r]
    simp only [List.mem_cons, forall_eq_or_imp]
    refine and_congr ?_ Iff.rfl
    show _ ↔ ∃ w, findF a n = some w ∧ undV w v = true
    cases findF a n with
    | none => simp
    | some w => simp [undV]

/-! Settled, ready; filled -/
mutual
def seT (w : Bool) : Tm → Bool
  | .mk k lo hi s a m o fs => decide (k ≠ 5) && (if k = 4 then seF w fs else single (.mk k lo hi s a m o fs) || (w && m))
def seF (w : Bool) : List Fd → Bool
  | [] => true
  | .mk _ v :: r => seL w v && seF w r
def seL (w : Bool) : List Tm → Bool
  | [t] => seT w t
  | _ => false
end
section
variable (N : Int → Bs)
def firm : Tm → Int → Tm
  | .mk k lo hi _ _ _ _ _, p =>
    if k = 1 then .mk 1 (p % 2) (p % 2) [] false false false []
    else if k = 2 then .mk 2 (lo + p % (hi - lo + 1)) (lo + p % (hi - lo + 1)) [] false false false []
    else .mk 3 0 0 (116 :: N p) false false false []
mutual
def fiT : Tm → List Int → Tm × List Int
  | .mk k lo hi s a m o fs, p => if m = true then (firm N (.mk k lo hi s a m o fs) (p.headD 0), p.tail) else (.mk k lo hi s a m o (fiF fs p).1, (fiF fs p).2)
def fiF : List Fd → List Int → List Fd × List Int
  | [], p => ([], p)
  | .mk n v :: r, p => (.mk n (fiL v p).1 :: (fiF r (fiL v p).2).1, (fiF r (fiL v p).2).2)
def fiL : List Tm → List Int → List Tm × List Int
  | [], p => ([], p)
  | t :: r, p => ((fiT t p).1 :: (fiL r (fiT t p).2).1, (fiL r (fiT t p).2).2)
end
variable (R : Bs → Bool) (hN : ∀ p, (N p).length ≤ 255)
theorem ris_names : ∀ (fs fs' : List Fd) (p : Option Bs), fs.map Fd.n = fs'.map Fd.n → risF R p fs = risF R p fs'
  | [], [], _, _ => rfl
  | [], _ :: _, _, h => by simp at h
  | _ :: _, [], _, h => by simp at h
  | .mk n v :: r, .mk n' v' :: r', p, h => by
    simp only [List.map_cons, List.cons.injEq] at h
    obtain ⟨h1, h2⟩ := h
    have h1 : n = n' := h1
    subst h1
    rw [risF, risF, ris_names r r' _ h2]
theorem fiF_names : ∀ (fs : List Fd) (p : List Int), ((fiF N fs p).1).map Fd.n = fs.map Fd.n
  | [], p => by rw [fiF]
  | .mk n v :: r, p => by
    rw [fiF]
    simp only [List.map_cons, fiF_names r]
    rfl
include hN in
/-- A scalar that waits, filled. -/
theorem firm_ok (t : Tm) (p : Int) (h1 : scal t = true) (h2 : t.m = true) : scal (firm N t p) = true ∧ belowS (firm N t p) t = true ∧ single (firm N t p) = true ∧ (firm N t p).k = t.k ∧ (firm N t p).fs = [] ∧ t.k ≠ 4 ∧ t.k ≠ 5 ∧ t.fs = [] := by
  obtain ⟨k, lo, hi, s, a, m, o, fs⟩ := t
  obtain rfl : m = true := h2
  rw [scal] at h1
  by_cases hn : (o || !fs.isEmpty || (true && single (.mk k lo hi s a true o fs))) = true
  · rw [if_pos hn] at h1; cases h1
  rw [if_neg hn] at h1
  simp only [Bool.or_eq_true, not_or, Bool.not_eq_true, Bool.true_and, Bool.not_eq_false', List.isEmpty_iff] at hn
  obtain ⟨⟨rfl, rfl⟩, hs⟩ := hn
  by_cases hk : k = 3
  · subst hk
    have ha : a = true := by cases a <;> simp_all [single]
    subst ha
    simp at h1
    obtain ⟨⟨rfl, rfl⟩, rfl⟩ := h1
    have hx := hN p
    have hx2 : (116 :: N p).length ≤ 256 := by simp; omega
    have hf : firm N (.mk 3 0 0 [] true true false []) p = .mk 3 0 0 (116 :: N p) false false false [] := by simp [firm]
    rw [hf]
    generalize 116 :: N p = x at hx2
    have s1 : scal (.mk 3 0 0 x false false false []) = true := by simp [scal, hx2]
    have s2 : scal (.mk 3 0 0 [] true true false []) = true := by decide
    refine ⟨s1, ?_, by simp [single], rfl, rfl, by decide, by decide, rfl⟩
    unfold belowS
    rw [meetS, s1, s2]
    simp [single, sameS, s1]
  · rw [if_neg hk] at h1
    by_cases hk : k = 1
    · subst hk
      simp at h1
      obtain ⟨⟨h1, h2, h3, rfl⟩, rfl⟩ := h1
      have hlh : lo ≠ hi := by simpa [single] using hs
      obtain rfl : lo = 0 := by omega
      obtain rfl : hi = 1 := by omega
      have : p % 2 = 0 ∨ p % 2 = 1 := by omega
      rcases this with h | h <;> (rw [firm, if_pos rfl, h]; decide)
    · rw [if_neg hk] at h1
      by_cases hk : k = 2
      · subst hk
        simp at h1
        obtain ⟨⟨h1, h2, h3, rfl⟩, rfl⟩ := h1
        have hlh : lo ≠ hi := by simpa [single] using hs
        have q1 := Int.emod_nonneg p (show hi - lo + 1 ≠ 0 by omega)
        have q2 := Int.emod_lt_of_pos p (show 0 < hi - lo + 1 by omega)
        have hf : firm N (.mk 2 lo hi [] false true false []) p = .mk 2 (lo + p % (hi - lo + 1)) (lo + p % (hi - lo + 1)) [] false false false [] := by simp [firm]
        rw [hf]
        generalize p % (hi - lo + 1) = q at q1 q2
        have s1 : scal (.mk 2 (lo + q) (lo + q) [] false false false []) = true := by
          simp [scal]; omega
        have s2 : scal (.mk 2 lo hi [] false true false []) = true := by
          simp [scal, single]; omega
        refine ⟨s1, ?_, by simp [single], rfl, rfl, (show (2 : Int) ≠ 4 by decide), (show (2 : Int) ≠ 5 by decide), rfl⟩
        unfold belowS
        rw [meetS, s1, s2, show max (lo + q) lo = lo + q by omega, show min (lo + q) hi = lo + q by omega]
        simp [single, sameS, s1]
      · rw [if_neg hk] at h1
        cases h1
theorem ind_one (t : Tm) : indV [t] = true := by
  unfold indV
  rw [List.all_eq_true]
  intro i hi
  rw [List.all_eq_true]
  intro k hk
  have hi : i < 1 := List.mem_range.1 hi
  have hk : k < 1 := List.mem_range.1 hk
  obtain rfl : i = 0 := by omega
  obtain rfl : k = 0 := by omega
  simp
/-- Each field has its fellow. -/
inductive Fel : List Fd → List Fd → Prop
  | nil : Fel [] []
  | cons {f g : Fd} {r q : List Fd} (h : f.n = g.n) (u : undV f.v g.v = true) (k : Fel r q) : Fel (f :: r) (g :: q)
theorem Fel.left {a b : List Fd} (h : Fel a b) : ∀ f ∈ a, ∃ g ∈ b, f.n = g.n := by
  induction h with
  | nil => intro f hf; cases hf
  | cons h u k ih =>
    intro f hf
    rcases List.mem_cons.1 hf with rfl | hf
    · exact ⟨_, List.mem_cons_self .., h⟩
    · obtain ⟨g, hg, e⟩ := ih f hf
      exact ⟨g, List.mem_cons_of_mem _ hg, e⟩
theorem Fel.right {a b : List Fd} (h : Fel a b) : ∀ g ∈ b, ∃ f ∈ a, f.n = g.n ∧ undV f.v g.v = true := by
  induction h with
  | nil => intro f hf; cases hf
  | cons h u k ih =>
    intro g hg
    rcases List.mem_cons.1 hg with rfl | hg
    · exact ⟨_, List.mem_cons_self .., h, u⟩
    · obtain ⟨f, hf, e⟩ := ih g hg
      exact ⟨f, List.mem_cons_of_mem _ hf, e⟩
theorem fel_und {a b : List Fd} (h : Fel a b) (ha : risF R none a = true) (hb : risF R none b = true) : hasAll a b = true ∧ undF a b = true := by
  constructor
  · unfold hasAll
    rw [List.all_eq_true]
    intro f hf
    obtain ⟨g, hg, e⟩ := h.left f hf
    rw [e, find_mem R b none hb g hg]; rfl
  · rw [undF_all]
    intro g hg
    obtain ⟨f, hf, e, u⟩ := h.right g hg
    exact ⟨f.v, by rw [← e]; exact find_mem R a none ha f hf, u⟩
include hN
mutual
theorem fiT_ok : ∀ (t : Tm) (p : List Int), rcT R t = true → seT true t = true →
    rcT R (fiT N t p).1 = true ∧ seT false (fiT N t p).1 = true ∧ wtT (fiT N t p).1 = wtT t ∧ dpT (fiT N t p).1 = dpT t ∧ undT (fiT N t p).1 t = true
  | .mk k lo hi s a m o fs, p, h1, h2 => by
    rw [rcT] at h1
    rw [seT] at h2
    simp only [Bool.and_eq_true, decide_eq_true_eq] at h2
    obtain ⟨hk5, h2⟩ := h2
    rw [if_neg hk5] at h1
    by_cases hk : k = 4
    · subst hk
      rw [if_pos rfl] at h1 h2
      simp only [Bool.and_eq_true] at h1
      obtain ⟨h1, h3⟩ := h1
      obtain ⟨f1, f2, f3, f4, f5⟩ := fiF_ok fs p h3 h2
      have hb := h1
      rw [bareT] at hb
      simp only [Bool.and_eq_true, decide_eq_true_eq, Bool.not_eq_true'] at hb
      obtain ⟨⟨⟨⟨hb1, hb2⟩, hb3⟩, hb4⟩, hb5⟩ := hb
      have hnm := fiF_names N fs p
      have hr' : risF R none (fiF N fs p).1 = true := by rw [ris_names R _ fs none hnm]; exact hb5
      obtain ⟨u1, u2⟩ := fel_und R f5 hr' hb5
      rw [fiT, hb3, if_neg (by decide)]
      refine ⟨?_, ?_, ?_, ?_, ?_⟩
      · rw [rcT, if_neg (by decide), if_pos rfl, f1]
        have hl : (fiF N fs p).1.length = fs.length := by have := congrArg List.length hnm; simpa using this
        rw [bareT, hr', hl, hb2]
        simp [hb1, hb4]
      · rw [seT, if_pos rfl, f2]; simp
      · rw [wtT, wtT, f3]
      · rw [dpT, dpT, f4]
      · rw [undT, if_neg (by simp [Tm.k]), show (Tm.mk 4 lo hi s a false o (fiF N fs p).1).fs = (fiF N fs p).1 from rfl, u1, u2]
        simp [Tm.o]
    · rw [if_neg hk] at h1 h2
      simp only [Bool.or_eq_true, Bool.true_and] at h2
      rw [fiT]
      by_cases hm : m = true
      · subst hm
        rw [if_pos rfl]
        obtain ⟨q1, q2, q3, q4, q5, q6, q7, q8⟩ := firm_ok N hN (.mk k lo hi s a true o fs) (p.headD 0) h1 rfl
        have q8 : fs = [] := q8
        subst q8
        generalize firm N (.mk k lo hi s a true o []) (p.headD 0) = x at q1 q2 q3 q4 q5
        obtain ⟨k', lo', hi', s', a', m', o', fs'⟩ := x
        simp only [Tm.k, Tm.fs] at q4 q5
        subst q4
        subst q5
        refine ⟨?_, ?_, ?_, ?_, ?_⟩
        · rw [rcT, if_neg hk5, if_neg hk]; exact q1
        · rw [seT, if_neg hk, q3]; simp [hk5]
        · rw [wtT, wtT]
        · rw [dpT, dpT]
        · rw [undT, if_pos (.inl hk), q2]; simp
      · rw [if_neg hm]
        have hm : m = false := by simpa using hm
        subst hm
        have h3 := h1
        rw [scal] at h3
        by_cases hn : (o || !fs.isEmpty || (false && single (.mk k lo hi s a false o fs))) = true
        · rw [if_pos hn] at h3; cases h3
        · simp only [Bool.or_eq_true, not_or, Bool.not_eq_true, Bool.not_eq_false', List.isEmpty_iff] at hn
          obtain ⟨⟨rfl, rfl⟩, _⟩ := hn
          have hs : single (.mk k lo hi s a false false []) = true := by simpa using h2
          rw [fiF]
          refine ⟨?_, ?_, rfl, rfl, ?_⟩
          · rw [rcT, if_neg hk5, if_neg hk]; exact h1
          · rw [seT, if_neg hk, hs]; simp [hk5]
          · rw [undT, if_pos (.inl hk)]
            have : belowS (.mk k lo hi s a false false []) (.mk k lo hi s a false false []) = true := by
              unfold belowS
              rw [meetS, h1, Int.max_self, Int.min_self]
              have hlh : ¬ hi < lo := by
                rw [if_neg (by simp)] at h3
                intro hc
                split at h3
                · simp at h3; omega
                · split at h3
                  · simp at h3; omega
                  · split at h3
                    · simp at h3; omega
                    · cases h3
              rw [if_pos (by simp), if_neg hlh, if_pos (by simp), show (bif a then s else s) = s from by cases a <;> rfl]
              simp [sameS, h1]
            rw [this]; simp
theorem fiF_ok : ∀ (fs : List Fd) (p : List Int), rcF R fs = true → seF true fs = true →
    rcF R (fiF N fs p).1 = true ∧ seF false (fiF N fs p).1 = true ∧ wtF (fiF N fs p).1 = wtF fs ∧ dpF (fiF N fs p).1 = dpF fs ∧ Fel (fiF N fs p).1 fs
  | [], p, _, _ => by rw [fiF]; exact ⟨by rw [rcF], by rw [seF], rfl, rfl, .nil⟩
  | .mk n v :: r, p, h1, h2 => by
    rw [rcF] at h1
    rw [seF] at h2
    simp only [Bool.and_eq_true] at h1 h2
    obtain ⟨⟨h0, ⟨h1, _⟩, _⟩, h3⟩ := h1
    obtain ⟨l1, l2, l3, l4, l5, l6⟩ := fiL_ok v p h1 h2.1
    obtain ⟨r1, r2, r3, r4, r5⟩ := fiF_ok r (fiL N v p).2 h3 h2.2
    rw [fiF]
    refine ⟨?_, ?_, ?_, ?_, .cons rfl l5 r5⟩
    · rw [rcF, r1, l1]
      obtain ⟨t', e⟩ := l6
      rw [e, ind_one]
      rfl
    · rw [seF, l2, r2]; rfl
    · rw [wtF, wtF, l3, r3]
    · rw [dpF, dpF, l4, r4]
theorem fiL_ok : ∀ (v : List Tm) (p : List Int), rcL R v = true → seL true v = true →
    rcL R (fiL N v p).1 = true ∧ seL false (fiL N v p).1 = true ∧ wtV (fiL N v p).1 = wtV v ∧ dpV (fiL N v p).1 = dpV v ∧ undV (fiL N v p).1 v = true ∧ ∃ t, (fiL N v p).1 = [t]
  | [], p, _, h => by simp [seL] at h
  | [t], p, h1, h2 => by
    rw [rcL] at h1
    rw [seL] at h2
    simp only [Bool.and_eq_true] at h1
    obtain ⟨t1, t2, t3, t4, t5⟩ := fiT_ok t p h1.1 h2
    rw [fiL, fiL]
    refine ⟨?_, ?_, ?_, ?_, ?_, _, rfl⟩
    · rw [rcL, t1, rcL]; rfl
    · rw [seL]; exact t2
    · rw [wtV, wtV, t3, wtV, wtV]
    · rw [dpV, dpV, t4, dpV, dpV]
    · unfold undV
      simp only [List.all_cons, List.all_nil, Bool.and_true]
      rw [undA, t5]; rfl
  | _ :: _ :: _, p, _, h => by simp [seL] at h
end
end
end Go.Proofs.YtmdimhcjogjcgaaGreatDoor.Lat
namespace Go.Proofs.YtmdimhcjogjcgaaGreatDoor.Lat
open Go.RowKit Go.Proofs.YtmdimhcjogjcgaaGreatDoor.Abs
mutual
def encT : Tm → List AV
  | .mk k lo hi s a m o fs => [.int .i64 k, .int .i64 lo, .int .i64 hi, .str s, .bool a, .bool m, .bool o, .sl 2 (encF fs)]
def encF : List Fd → List (List AV)
  | [] => []
  | .mk n v :: r => [.str n, .sl 8 (encV v)] :: encF r
def encV : List Tm → List (List AV)
  | [] => []
  | t :: r => encT t :: encV r
end
theorem encT_len (t : Tm) : (encT t).length = 8 := by cases t; rfl
theorem encV_map : ∀ v : List Tm, encV v = v.map encT
  | [] => by rw [encV]; rfl
  | t :: r => by rw [encV, encV_map r]; rfl
def encFd : Fd → List AV
  | .mk n v => [.str n, .sl 8 (encV v)]
theorem encF_map : ∀ fs : List Fd, encF fs = fs.map encFd
  | [] => by rw [encF]; rfl
  | .mk n v :: r => by rw [encF, encF_map r]; rfl
mutual
/-- How many terms and fields there are. -/
def szT : Tm → Nat
  | .mk _ _ _ _ _ _ _ fs => 1 + szF fs
def szF : List Fd → Nat
  | [] => 0
  | .mk _ v :: r => 1 + szV v + szF r
def szV : List Tm → Nat
  | [] => 0
  | t :: r => szT t + szV r
end
theorem szF_len : ∀ fs : List Fd, fs.length ≤ szF fs
  | [] => by simp [szF]
  | .mk n v :: r => by have := szF_len r; simp [szF]; omega
theorem szV_len : ∀ v : List Tm, v.length ≤ szV v
  | [] => by simp [szV]
  | .mk _ _ _ _ _ _ _ fs :: r => by have := szV_len r; simp [szV, szT]; omega
mutual
inductive OT (w : World) (B : Nat) : Array Value → Nat → Tm → List Nat → Prop
  | mk {vs : Array Value} {o : Nat} {k lo hi : Int} {sb : ByteArray} {a m op : Bool} {fs : List Fd} {v : Value} {fp : List Nat}
      (h0 : vs[o]? = some (.int .i64 k)) (h1 : vs[o + 1]? = some (.int .i64 lo)) (h2 : vs[o + 2]? = some (.int .i64 hi)) (h3 : vs[o + 3]? = some (.string sb))
      (h4 : vs[o + 4]? = some (.bool a)) (h5 : vs[o + 5]? = some (.bool m)) (h6 : vs[o + 6]? = some (.bool op)) (h7 : vs[o + 7]? = some v)
      (hf : OF w B v fs fp) : OT w B vs o (.mk k lo hi sb.data.toList a m op fs) fp
inductive OF (w : World) (B : Nat) : Value → List Fd → List Nat → Prop
  | nil : OF w B (.slice none 0 0) [] []
  | emp {bo : Addr} {cap : Nat} : OF w B (.slice (some bo) 0 cap) [] []
  | row {b cap n : Nat} {vs : Array Value} {ty : TypeId} {fs : List Fd} {fp : List Nat} (hB : B ≤ b) (hb : w.heap[b]? = some (.cells vs ty (0, 0))) (hn : n = fs.length)
      (hc : n ≤ cap) (hs : vs.size = cap * 2) (hp : 0 < n) (hr : OFs w B vs 0 fs fp) : OF w B (.slice (some ⟨b, 0, none⟩) n cap) fs (b :: fp)
inductive OFs (w : World) (B : Nat) : Array Value → Nat → List Fd → List Nat → Prop
  | nil {vs : Array Value} {o : Nat} : OFs w B vs o [] []
  | cons {vs : Array Value} {o : Nat} {nb : ByteArray} {v : Value} {ts : List Tm} {r : List Fd} {f1 f2 : List Nat}
      (h0 : vs[o]? = some (.string nb)) (h1 : vs[o + 1]? = some v) (hv : OV w B v ts f1) (hr : OFs w B vs (o + 2) r f2) : OFs w B vs o (.mk nb.data.toList ts :: r) (f1 ++ f2)
inductive OV (w : World) (B : Nat) : Value → List Tm → List Nat → Prop
  | nil : OV w B (.slice none 0 0) [] []
  | emp {bo : Addr} {cap : Nat} : OV w B (.slice (some bo) 0 cap) [] []
  | row {b cap n : Nat} {vs : Array Value} {ty : TypeId} {ts : List Tm} {fp : List Nat} (hB : B ≤ b) (hb : w.heap[b]? = some (.cells vs ty (0, 0))) (hn : n = ts.length)
      (hc : n ≤ cap) (hs : vs.size = cap * 8) (hp : 0 < n) (hr : OTs w B vs 0 ts fp) : OV w B (.slice (some ⟨b, 0, none⟩) n cap) ts (b :: fp)
inductive OTs (w : World) (B : Nat) : Array Value → Nat → List Tm → List Nat → Prop
  | nil {vs : Array Value} {o : Nat} : OTs w B vs o [] []
  | cons {vs : Array Value} {o : Nat} {t : Tm} {r : List Tm} {f1 f2 : List Nat} (ht : OT w B vs o t f1) (hr : OTs w B vs (o + 8) r f2) : OTs w B vs o (t :: r) (f1 ++ f2)
end
section
variable {w : World} {B : Nat}
mutual
theorem OT.frame {w' : World} : ∀ {vs : Array Value} {o : Nat} {t : Tm} {fp : List Nat}, OT w B vs o t fp → (∀ b ∈ fp, w'.heap[b]? = w.heap[b]?) → OT w' B vs o t fp
  | _, _, _, _, .mk h0 h1 h2 h3 h4 h5 h6 h7 hf, he => .mk h0 h1 h2 h3 h4 h5 h6 h7 (hf.frame he)
theorem OF.frame {w' : World} : ∀ {v : Value} {fs : List Fd} {fp : List Nat}, OF w B v fs fp → (∀ b ∈ fp, w'.heap[b]? = w.heap[b]?) → OF w' B v fs fp
  | _, _, _, .nil, he => .nil
  | _, _, _, .emp, he => .emp
  | _, _, _, .row hB hb hn hc hs hp hr, he => .row hB (by rw [he _ (List.mem_cons_self ..)]; exact hb) hn hc hs hp (hr.frame fun b hb => he b (List.mem_cons_of_mem _ hb))
theorem OFs.frame {w' : World} : ∀ {vs : Array Value} {o : Nat} {fs : List Fd} {fp : List Nat}, OFs w B vs o fs fp → (∀ b ∈ fp, w'.heap[b]? = w.heap[b]?) → OFs w' B vs o fs fp
  | _, _, _, _, .nil, he => .nil
  | _, _, _, _, .cons h0 h1 hv hr, he => .cons h0 h1 (hv.frame fun b hb => he b (List.mem_append_left _ hb)) (hr.frame fun b hb => he b (List.mem_append_right _ hb))
theorem OV.frame {w' : World} : ∀ {v : Value} {ts : List Tm} {fp : List Nat}, OV w B v ts fp → (∀ b ∈ fp, w'.heap[b]? = w.heap[b]?) → OV w' B v ts fp
  | _, _, _, .nil, he => .nil
  | _, _, _, .emp, he => .emp
  | _, _, _, .row hB hb hn hc hs hp hr, he => .row hB (by rw [he _ (List.mem_cons_self ..)]; exact hb) hn hc hs hp (hr.frame fun b hb => he b (List.mem_cons_of_mem _ hb))
theorem OTs.frame {w' : World} : ∀ {vs : Array Value} {o : Nat} {ts : List Tm} {fp : List Nat}, OTs w B vs o ts fp → (∀ b ∈ fp, w'.heap[b]? = w.heap[b]?) → OTs w' B vs o ts fp
  | _, _, _, _, .nil, he => .nil
  | _, _, _, _, .cons ht hr, he => .cons (ht.frame fun b hb => he b (List.mem_append_left _ hb)) (hr.frame fun b hb => he b (List.mem_append_right _ hb))
end
mutual
theorem OT.base {B' : Nat} (hB' : B' ≤ B) : ∀ {vs : Array Value} {o : Nat} {t : Tm} {fp : List Nat}, OT w B vs o t fp → OT w B' vs o t fp
  | _, _, _, _, .mk h0 h1 h2 h3 h4 h5 h6 h7 hf => .mk h0 h1 h2 h3 h4 h5 h6 h7 (hf.base hB')
theorem OF.base {B' : Nat} (hB' : B' ≤ B) : ∀ {v : Value} {fs : List Fd} {fp : List Nat}, OF w B v fs fp → OF w B' v fs fp
  | _, _, _, .nil => .nil
  | _, _, _, .emp => .emp
  | _, _, _, .row hB hb hn hc hs hp hr => .row (Nat.le_trans hB' hB) hb hn hc hs hp (hr.base hB')
theorem OFs.base {B' : Nat} (hB' : B' ≤ B) : ∀ {vs : Array Value} {o : Nat} {fs : List Fd} {fp : List Nat}, OFs w B vs o fs fp → OFs w B' vs o fs fp
  | _, _, _, _, .nil => .nil
  | _, _, _, _, .cons h0 h1 hv hr => .cons h0 h1 (hv.base hB') (hr.base hB')
theorem OV.base {B' : Nat} (hB' : B' ≤ B) : ∀ {v : Value} {ts : List Tm} {fp : List Nat}, OV w B v ts fp → OV w B' v ts fp
  | _, _, _, .nil => .nil
  | _, _, _, .emp => .emp
  | _, _, _, .row hB hb hn hc hs hp hr => .row (Nat.le_trans hB' hB) hb hn hc hs hp (hr.base hB')
theorem OTs.base {B' : Nat} (hB' : B' ≤ B) : ∀ {vs : Array Value} {o : Nat} {ts : List Tm} {fp : List Nat}, OTs w B vs o ts fp → OTs w B' vs o ts fp
  | _, _, _, _, .nil => .nil
  | _, _, _, _, .cons ht hr => .cons (ht.base hB') (hr.base hB')
end
mutual
theorem OT.bd : ∀ {vs : Array Value} {o : Nat} {t : Tm} {fp : List Nat}, OT w B vs o t fp → ∀ b ∈ fp, B ≤ b ∧ b < w.heap.size
  | _, _, _, _, .mk h0 h1 h2 h3 h4 h5 h6 h7 hf => hf.bd
theorem OF.bd : ∀ {v : Value} {fs : List Fd} {fp : List Nat}, OF w B v fs fp → ∀ b ∈ fp, B ≤ b ∧ b < w.heap.size
  | _, _, _, .nil => fun b hb => by cases hb
  | _, _, _, .emp => fun b hb => by cases hb
  | _, _, _, .row hB hb hn hc hs hp hr => fun b hb' => by
    rcases List.mem_cons.1 hb' with rfl | hb'
    · exact ⟨hB, (Array.getElem?_eq_some_iff.1 hb).1⟩
    · exact hr.bd b hb'
theorem OFs.bd : ∀ {vs : Array Value} {o : Nat} {fs : List Fd} {fp : List Nat}, OFs w B vs o fs fp → ∀ b ∈ fp, B ≤ b ∧ b < w.heap.size
  | _, _, _, _, .nil => fun b hb => by cases hb
  | _, _, _, _, .cons h0 h1 hv hr => fun b hb => by
    rcases List.mem_append.1 hb with hb | hb
    · exact hv.bd b hb
    · exact hr.bd b hb
theorem OV.bd : ∀ {v : Value} {ts : List Tm} {fp : List Nat}, OV w B v ts fp → ∀ b ∈ fp, B ≤ b ∧ b < w.heap.size
  | _, _, _, .nil => fun b hb => by cases hb
  | _, _, _, .emp => fun b hb => by cases hb
  | _, _, _, .row hB hb hn hc hs hp hr => fun b hb' => by
    rcases List.mem_cons.1 hb' with rfl | hb'
    · exact ⟨hB, (Array.getElem?_eq_some_iff.1 hb).1⟩
    · exact hr.bd b hb'
theorem OTs.bd : ∀ {vs : Array Value} {o : Nat} {ts : List Tm} {fp : List Nat}, OTs w B vs o ts fp → ∀ b ∈ fp, B ≤ b ∧ b < w.heap.size
  | _, _, _, _, .nil => fun b hb => by cases hb
  | _, _, _, _, .cons ht hr => fun b hb => by
    rcases List.mem_append.1 hb with hb | hb
    · exact ht.bd b hb
    · exact hr.bd b hb
end
/-- The cells may change behind and ahead. -/
theorem OT.arr {vs vs' : Array Value} {o : Nat} {t : Tm} {fp : List Nat} (h : OT w B vs o t fp) (he : ∀ i, o ≤ i → i < o + 8 → vs'[i]? = vs[i]?) : OT w B vs' o t fp := by
  cases h with
  | mk h0 h1 h2 h3 h4 h5 h6 h7 hf =>
    have e : ∀ j, j < 8 → vs'[o + j]? = vs[o + j]? := fun j hj => he _ (by omega) (by omega)
    exact .mk ((e 0 (by omega)).trans h0) ((e 1 (by omega)).trans h1) ((e 2 (by omega)).trans h2) ((e 3 (by omega)).trans h3) ((e 4 (by omega)).trans h4) ((e 5 (by omega)).trans h5) ((e 6 (by omega)).trans h6) ((e 7 (by omega)).trans h7) hf
theorem OTs.arr {vs vs' : Array Value} : ∀ {ts : List Tm} {o : Nat} {fp : List Nat}, OTs w B vs o ts fp → (∀ i, o ≤ i → i < o + 8 * ts.length → vs'[i]? = vs[i]?) → OTs w B vs' o ts fp
  | [], _, _, h, _ => by cases h; exact .nil
  | t :: r, o, _, h, he => by
    cases h with
    | cons ht hr =>
      simp only [List.length_cons] at he
      exact .cons (ht.arr fun i h1 h2 => he i h1 (by omega)) (hr.arr fun i h1 h2 => he i (by omega) (by omega))
theorem OFs.arr {vs vs' : Array Value} : ∀ {fs : List Fd} {o : Nat} {fp : List Nat}, OFs w B vs o fs fp → (∀ i, o ≤ i → i < o + 2 * fs.length → vs'[i]? = vs[i]?) → OFs w B vs' o fs fp
  | [], _, _, h, _ => by cases h; exact .nil
  | t :: r, o, _, h, he => by
    cases h with
    | cons h0 h1 hv hr =>
      simp only [List.length_cons] at he
      exact .cons ((he o (by omega) (by omega)).trans h0) ((he (o + 1) (by omega) (by omega)).trans h1) hv (hr.arr fun i h1 h2 => he i (by omega) (by omega))
theorem OTs.snoc {vs : Array Value} {t : Tm} {f2 : List Nat} : ∀ {ts : List Tm} {o : Nat} {f1 : List Nat}, OTs w B vs o ts f1 → OT w B vs (o + 8 * ts.length) t f2 → OTs w B vs o (ts ++ [t]) (f1 ++ f2)
  | [], o, _, h, ht => by cases h; have := OTs.cons (w := w) (B := B) (r := []) (f2 := []) (by simpa using ht) .nil; simpa using this
  | x :: r, o, _, h, ht => by
    cases h with
    | cons hx hr =>
      rw [List.append_assoc]
      exact .cons hx (hr.snoc (by simp only [List.length_cons] at ht; rw [show o + 8 + 8 * r.length = o + 8 * (r.length + 1) by omega]; exact ht))
theorem OFs.snoc {vs : Array Value} {nb : ByteArray} {v : Value} {ts : List Tm} {f2 : List Nat} : ∀ {fs : List Fd} {o : Nat} {f1 : List Nat}, OFs w B vs o fs f1 →
    vs[o + 2 * fs.length]? = some (.string nb) → vs[o + 2 * fs.length + 1]? = some v → OV w B v ts f2 → OFs w B vs o (fs ++ [.mk nb.data.toList ts]) (f1 ++ f2)
  | [], o, _, h, h0, h1, hv => by cases h; have := OFs.cons (w := w) (B := B) (r := []) (f2 := []) (by simpa using h0) (by simpa using h1) hv .nil; simpa using this
  | x :: r, o, _, h, h0, h1, hv => by
    cases h with
    | cons g0 g1 gv hr =>
      rw [List.append_assoc]
      simp only [List.length_cons] at h0 h1
      exact .cons g0 g1 gv (hr.snoc (by rw [show o + 2 + 2 * r.length = o + 2 * (r.length + 1) by omega]; exact h0) (by rw [show o + 2 + 2 * r.length = o + 2 * (r.length + 1) by omega]; exact h1) hv)
end
section
variable {w : World} {B : Nat} {c : Cls} (hfz : ∀ b, B ≤ b → c b = .frz)
include hfz
mutual
theorem OT.rep : ∀ {vs : Array Value} {o : Nat} {t : Tm} {fp : List Nat}, OT w B vs o t fp → ∀ (j : Nat) (a : AV), (encT t)[j]? = some a → ∃ u, vs[o + j]? = some u ∧ Rep w c u a
  | vs, o, _, _, .mk h0 h1 h2 h3 h4 h5 h6 h7 hf, j, a, ha => by
    rw [encT] at ha
    have hj := (List.getElem?_eq_some_iff.1 ha).1
    simp only [List.length_cons, List.length_nil] at hj
    rcases (by omega : j = 0 ∨ j = 1 ∨ j = 2 ∨ j = 3 ∨ j = 4 ∨ j = 5 ∨ j = 6 ∨ j = 7) with rfl | rfl | rfl | rfl | rfl | rfl | rfl | rfl
    all_goals (simp only [List.getElem?_cons_zero, List.getElem?_cons_succ, Option.some.injEq] at ha; subst ha)
    · exact ⟨_, h0, .int _ _⟩
    · exact ⟨_, h1, .int _ _⟩
    · exact ⟨_, h2, .int _ _⟩
    · exact ⟨_, h3, .str _⟩
    · exact ⟨_, h4, .bool _⟩
    · exact ⟨_, h5, .bool _⟩
    · exact ⟨_, h6, .bool _⟩
    · exact ⟨_, h7, hf.rep⟩
theorem OF.rep : ∀ {v : Value} {fs : List Fd} {fp : List Nat}, OF w B v fs fp → Rep w c v (.sl 2 (encF fs))
  | _, _, _, .nil => by rw [encF]; exact .nil _
  | _, _, _, .emp => by rw [encF]; exact .emp _ _ _
  | _, fs, _, .row (b := b) (cap := cap) (n := n) (vs := vs) hB hb hn hc hs hp hr => by
    have hl : (encF fs).length = n := by rw [encF_map, List.length_map, hn]
    rw [← hl]
    refine Rep.sl b 0 cap 2 (encF fs) (fun i j => vs.getD (i * 2 + j) undef) (by omega) (fun i cs hi => ?_) (fun i j hi hj => ?_) (fun i j hi hj => ?_) (fun i j cs a hi hj => ?_)
    · rw [encF_map, List.getElem?_map] at hi
      cases hx : fs[i]? with
      | none => rw [hx] at hi; cases hi
      | some f => rw [hx] at hi; obtain ⟨n, v⟩ := f; cases hi; rfl
    · rw [cell_of hb, Nat.zero_add]
      have : i * 2 + j < vs.size := by omega
      simp [Array.getD_eq_getD_getElem?, this]
    · unfold stab; rw [hfz b hB]; trivial
    · obtain ⟨u, h1, h2⟩ := hr.rep i j cs a hi hj
      rw [Nat.zero_add] at h1
      show Rep w c (vs.getD (i * 2 + j) undef) a
      simp only [Array.getD_eq_getD_getElem?, h1, Option.getD_some]; exact h2
theorem OFs.rep : ∀ {vs : Array Value} {o : Nat} {fs : List Fd} {fp : List Nat}, OFs w B vs o fs fp → ∀ (i j : Nat) (cs : List AV) (a : AV), (encF fs)[i]? = some cs → cs[j]? = some a → ∃ u, vs[o + (i * 2 + j)]? = some u ∧ Rep w c u a
  | _, _, _, _, .nil, i, j, cs, a, hi, hj => by rw [encF] at hi; simp at hi
  | vs, o, _, _, .cons h0 h1 hv hr, i, j, cs, a, hi, hj => by
    rw [encF] at hi
    cases i with
    | succ i =>
      obtain ⟨u, h1, h2⟩ := hr.rep i j cs a (by simpa using hi) hj
      exact ⟨u, by rw [show o + ((i + 1) * 2 + j) = o + 2 + (i * 2 + j) by omega]; exact h1, h2⟩
    | zero =>
      simp only [List.getElem?_cons_zero, Option.some.injEq] at hi
      subst hi
      have hj' := (List.getElem?_eq_some_iff.1 hj).1
      simp only [List.length_cons, List.length_nil] at hj'
      rcases (by omega : j = 0 ∨ j = 1) with rfl | rfl
      all_goals (simp only [List.getElem?_cons_zero, List.getElem?_cons_succ, Option.some.injEq] at hj; subst hj)
      · exact ⟨_, by simpa using h0, .str _⟩
      · exact ⟨_, by simpa using h1, hv.rep⟩
theorem OV.rep : ∀ {v : Value} {ts : List Tm} {fp : List Nat}, OV w B v ts fp → Rep w c v (.sl 8 (encV ts))
  | _, _, _, .nil => by rw [encV]; exact .nil _
  | _, _, _, .emp => by rw [encV]; exact .emp _ _ _
  | _, ts, _, .row (b := b) (cap := cap) (n := n) (vs := vs) hB hb hn hc hs hp hr => by
    have hl : (encV ts).length = n := by rw [encV_map, List.length_map, hn]
    rw [← hl]
    refine Rep.sl b 0 cap 8 (encV ts) (fun i j => vs.getD (i * 8 + j) undef) (by omega) (fun i cs hi => ?_) (fun i j hi hj => ?_) (fun i j hi hj => ?_) (fun i j cs a hi hj => ?_)
    · rw [encV_map, List.getElem?_map] at hi
      cases hx : ts[i]? with
      | none => rw [hx] at hi; cases hi
      | some f => rw [hx] at hi; cases hi; exact encT_len f
    · rw [cell_of hb, Nat.zero_add]
      have : i * 8 + j < vs.size := by omega
      simp [Array.getD_eq_getD_getElem?, this]
    · unfold stab; rw [hfz b hB]; trivial
    · obtain ⟨u, h1, h2⟩ := hr.rep i j cs a hi hj
      rw [Nat.zero_add] at h1
      show Rep w c (vs.getD (i * 8 + j) undef) a
      simp only [Array.getD_eq_getD_getElem?, h1, Option.getD_some]; exact h2
theorem OTs.rep : ∀ {vs : Array Value} {o : Nat} {ts : List Tm} {fp : List Nat}, OTs w B vs o ts fp → ∀ (i j : Nat) (cs : List AV) (a : AV), (encV ts)[i]? = some cs → cs[j]? = some a → ∃ u, vs[o + (i * 8 + j)]? = some u ∧ Rep w c u a
  | _, _, _, _, .nil, i, j, cs, a, hi, hj => by rw [encV] at hi; simp at hi
  | vs, o, _, _, .cons ht hr, i, j, cs, a, hi, hj => by
    rw [encV] at hi
    cases i with
    | succ i =>
      obtain ⟨u, h1, h2⟩ := hr.rep i j cs a (by simpa using hi) hj
      exact ⟨u, by rw [show o + ((i + 1) * 8 + j) = o + 8 + (i * 8 + j) by omega]; exact h1, h2⟩
    | zero =>
      simp only [List.getElem?_cons_zero, Option.some.injEq] at hi
      subst hi
      obtain ⟨u, h1, h2⟩ := ht.rep j a hj
      exact ⟨u, by simpa using h1, h2⟩
end
end
end Go.Proofs.YtmdimhcjogjcgaaGreatDoor.Lat
