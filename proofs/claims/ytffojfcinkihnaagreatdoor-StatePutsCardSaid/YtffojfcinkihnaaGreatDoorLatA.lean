/- Values of the lattice as plain trees: the order, rightness, 'below', with and without limits. -/
import Derived.Test.YtffojfcinkihnaaGreatDoorAbsC
set_option linter.unusedVariables false
set_option linter.unusedSimpArgs false
set_option linter.unusedSectionVars false
set_option linter.deprecated false
set_option linter.unnecessarySimpa false
namespace Go.Proofs.YtffojfcinkihnaaGreatDoor.Lat
set_option linter.unusedVariables false
open Go.Proofs.YtffojfcinkihnaaGreatDoor.Abs (bytesLt)

abbrev Bs := List UInt8
mutual
inductive Tm where
  | mk (k lo hi : Int) (s : Bs) (a m o : Bool) (fs : List Fd)
inductive Fd where
  | mk (n : Bs) (v : List Tm)
end
def Tm.k : Tm → Int | .mk k _ _ _ _ _ _ _ => k
def Tm.lo : Tm → Int | .mk _ x _ _ _ _ _ _ => x
def Tm.hi : Tm → Int | .mk _ _ x _ _ _ _ _ => x
def Tm.s : Tm → Bs | .mk _ _ _ x _ _ _ _ => x
def Tm.a : Tm → Bool | .mk _ _ _ _ x _ _ _ => x
def Tm.m : Tm → Bool | .mk _ _ _ _ _ x _ _ => x
def Tm.o : Tm → Bool | .mk _ _ _ _ _ _ x _ => x
def Tm.fs : Tm → List Fd | .mk _ _ _ _ _ _ _ x => x
def Fd.n : Fd → Bs | .mk n _ => n
def Fd.v : Fd → List Tm | .mk _ v => v

def cmpI (x y : Int) : Int := if x < y then -1 else if y < x then 1 else 0
def cmpS (x y : Bs) : Int := if bytesLt x y = true then -1 else if bytesLt y x = true then 1 else 0
def flag (b : Bool) : Int := if b = true then 1 else 0
/-- The first that is not 0. -/
def fst0 (n : Int) (k : Int) : Int := if n = 0 then k else n
mutual
def cmpT : Tm → Tm → Int
  | .mk k lo hi s a m o fs, t => fst0 (cmpI k t.k) (fst0 (cmpI lo t.lo) (fst0 (cmpI hi t.hi) (fst0 (cmpS s t.s) (fst0 (flag a - flag t.a) (fst0 (flag m - flag t.m) (fst0 (flag o - flag t.o) (cmpF fs t.fs)))))))
def cmpF : List Fd → List Fd → Int
  | [], [] => 0
  | [], _ :: _ => -1
  | _ :: _, [] => 1
  | .mk n v :: r, f :: q => fst0 (fst0 (cmpS n f.n) (cmpV v f.v)) (cmpF r q)
def cmpV : List Tm → List Tm → Int
  | [], [] => 0
  | [], _ :: _ => -1
  | _ :: _, [] => 1
  | t :: r, u :: q => fst0 (cmpT t u) (cmpV r q)
end
mutual
def wtT : Tm → Nat
  | .mk _ _ _ _ _ _ _ fs => 1 + wtF fs
def wtF : List Fd → Nat
  | [] => 0
  | .mk _ v :: r => wtV v + wtF r
def wtV : List Tm → Nat
  | [] => 0
  | t :: r => wtT t + wtV r
end
mutual
/-- How deep the fields' values of a term are. -/
def dpT : Tm → Nat
  | .mk _ _ _ _ _ _ _ fs => dpF fs
def dpF : List Fd → Nat
  | [] => 0
  | .mk _ v :: r => max (dpV v + 1) (dpF r)
def dpV : List Tm → Nat
  | [] => 0
  | t :: r => max (dpT t) (dpV r)
end
def depth (v : List Tm) : Nat := dpV v + 1

/-! Scalars -/
def single : Tm → Bool
  | .mk k lo hi _ a _ _ _ => if k = 3 then !a else decide (lo = hi)
def scal : Tm → Bool
  | .mk k lo hi s a m o fs =>
    if (o || !fs.isEmpty || (m && single (.mk k lo hi s a m o fs))) = true then false
    else if k = 3 then decide (lo = 0 ∧ hi = 0) && (if a = true then decide (s = []) else decide (s.length ≤ 256))
    else if k = 1 then decide (0 ≤ lo ∧ lo ≤ hi ∧ hi ≤ 1 ∧ s = []) && !a
    else if k = 2 then decide (-9007199254740992 ≤ lo ∧ lo ≤ hi ∧ hi ≤ 9007199254740992 ∧ s = []) && !a
    else false
def sameS : Tm → Tm → Bool
  | .mk k lo hi s a m o fs, .mk k' lo' hi' s' a' m' o' fs' => scal (.mk k lo hi s a m o fs) && scal (.mk k' lo' hi' s' a' m' o' fs') && decide (k = k' ∧ lo = lo' ∧ hi = hi' ∧ s = s') && (a == a') && (m == m')
/-- What two scalars have in common. -/
def meetS : Tm → Tm → Option Tm
  | .mk k lo hi s a m o fs, .mk k' lo' hi' s' a' m' o' fs' =>
    if (scal (.mk k lo hi s a m o fs) && scal (.mk k' lo' hi' s' a' m' o' fs') && decide (k = k')) = true then
      if min hi hi' < max lo lo' then none
      else if (a || a' || decide (s = s')) = true then
        some (.mk k (max lo lo') (min hi hi') (bif a then s' else s) (a && a') ((m || m') && !single (.mk k (max lo lo') (min hi hi') (bif a then s' else s) (a && a') false false [])) false [])
      else none
    else none
def belowS (a b : Tm) : Bool := match meetS a b with | some m => sameS m a | none => false

/-! Below -/
def findF : List Fd → Bs → Option (List Tm)
  | [], _ => none
  | .mk n v :: r, s => if n = s then some v else findF r s
def hasAll (a b : List Fd) : Bool := a.all fun f => (findF b f.n).isSome
mutual
def undT (a : Tm) : Tm → Bool
  | .mk k lo hi s x m o fs => decide (k = 5) || (if a.k ≠ 4 ∨ k ≠ 4 then belowS a (.mk k lo hi s x m o fs) else (!a.o || o) && (o || hasAll a.fs fs) && undF a.fs fs)
def undF (a : List Fd) : List Fd → Bool
  | [] => true
  | .mk n v :: r => (match findF a n with | some w => w.all (fun t => undA t v) | none => false) && undF a r
def undA (t : Tm) : List Tm → Bool
  | [] => false
  | u :: r => undT t u || undA t r
end
def undV (a b : List Tm) : Bool := a.all fun t => undA t b

/-! Rightness. 'R' tells which names are right. -/
section
variable (R : Bs → Bool)
def rises : Option Bs → Bs → Bool
  | none, _ => true
  | some q, n => bytesLt q n
def risF : Option Bs → List Fd → Bool
  | _, [] => true
  | p, .mk n _ :: r => R n && rises p n && risF (some n) r
def srtV : List Tm → Bool
  | t :: u :: r => decide (cmpT t u < 0) && srtV (u :: r)
  | _ => true
def indV (v : List Tm) : Bool := (List.range v.length).all fun i => (List.range v.length).all fun k => decide (i = k) || (match v[i]?, v[k]? with | some t, some u => !undT t u | _, _ => true)
def anyT : Tm → Bool
  | .mk _ lo hi s a m o fs => decide (lo = 0 ∧ hi = 0 ∧ s = []) && !a && !m && !o && fs.isEmpty
def bareT : Tm → Bool
  | .mk _ lo hi s a m _ fs => decide (lo = 0 ∧ hi = 0 ∧ s = []) && !a && !m && decide (fs.length ≤ 32) && risF R none fs
mutual
/-- Right, but for the limits of weight and depth. -/
def rcT : Tm → Bool
  | .mk k lo hi s a m o fs => if k = 5 then anyT (.mk k lo hi s a m o fs) else if k = 4 then bareT R (.mk k lo hi s a m o fs) && rcF fs else scal (.mk k lo hi s a m o fs)
def rcF : List Fd → Bool
  | [] => true
  | .mk _ v :: r => !v.isEmpty && (rcL v && srtV v && indV v) && rcF r
def rcL : List Tm → Bool
  | [] => true
  | t :: r => rcT t && rcL r
end
def rcV (v : List Tm) : Bool := rcL R v && srtV v && indV v
def limV (v : List Tm) : Bool := decide (wtV v ≤ 512) && decide (depth v ≤ 16)
mutual
/-- As the document has it: the limits are asked of each value again. -/
def okT : Tm → Bool
  | .mk k lo hi s a m o fs => if k = 5 then anyT (.mk k lo hi s a m o fs) else if k = 4 then bareT R (.mk k lo hi s a m o fs) && okF fs else scal (.mk k lo hi s a m o fs)
def okF : List Fd → Bool
  | [] => true
  | .mk _ v :: r => !v.isEmpty && (limV v && okL v && srtV v && indV v) && okF r
def okL : List Tm → Bool
  | [] => true
  | t :: r => okT t && okL r
end
def okV (v : List Tm) : Bool := limV v && okL R v && srtV v && indV v
mutual
/-- As the program has it: so deep at most. -/
def liT : Int → Tm → Bool
  | d, .mk k lo hi s a m o fs => if k = 5 then anyT (.mk k lo hi s a m o fs) else if k = 4 then bareT R (.mk k lo hi s a m o fs) && liF (d - 1) fs else scal (.mk k lo hi s a m o fs)
def liF : Int → List Fd → Bool
  | _, [] => true
  | d, .mk _ v :: r => !v.isEmpty && (decide (1 ≤ d) && decide (v.length ≤ 512) && liL d v && srtV v && indV v) && liF d r
def liL : Int → List Tm → Bool
  | _, [] => true
  | d, t :: r => liT d t && liL d r
end
def liV (d : Int) (v : List Tm) : Bool := decide (1 ≤ d) && decide (v.length ≤ 512) && liL R d v && srtV v && indV v

theorem len_wt : ∀ v : List Tm, v.length ≤ wtV v
  | [] => by simp [wtV]
  | .mk k lo hi s a m o fs :: r => by have := len_wt r; simp [wtV, wtT]; omega
mutual
theorem ok_rcT : ∀ t : Tm, wtT t ≤ 512 → dpT t ≤ 15 → okT R t = rcT R t
  | .mk k lo hi s a m o fs, h1, h2 => by
    rw [okT, rcT, ok_rcF fs (by simp [wtT] at h1; omega) (by simp [dpT] at h2; omega)]
theorem ok_rcF : ∀ fs : List Fd, wtF fs ≤ 512 → dpF fs ≤ 15 → okF R fs = rcF R fs
  | [], _, _ => by rw [okF, rcF]
  | .mk n v :: r, h1, h2 => by
    simp only [wtF, dpF] at h1 h2
    rw [okF, rcF, ok_rcL v (by omega) (by omega), ok_rcF r (by omega) (by omega)]
    have : limV v = true := by unfold limV depth; simp; omega
    rw [this]; simp
theorem ok_rcL : ∀ v : List Tm, wtV v ≤ 512 → dpV v ≤ 15 → okL R v = rcL R v
  | [], _, _ => by rw [okL, rcL]
  | t :: r, h1, h2 => by
    simp only [wtV, dpV] at h1 h2
    rw [okL, rcL, ok_rcT t (by omega) (by omega), ok_rcL r (by omega) (by omega)]
end
theorem ok_is (v : List Tm) : okV R v = (limV v && rcV R v) := by
  unfold okV rcV
  cases h : limV v with
  | false => simp
  | true =>
    unfold limV depth at h
    simp at h
    rw [ok_rcL R v (by omega) (by omega)]
    simp [Bool.and_assoc]
mutual
theorem li_rcT : ∀ (t : Tm) (d : Int), wtT t ≤ 512 → (dpT t : Int) < d → liT R d t = rcT R t
  | .mk k lo hi s a m o fs, d, h1, h2 => by
    rw [liT, rcT, li_rcF fs (d - 1) (by simp [wtT] at h1; omega) (by simp [dpT] at h2; omega)]
theorem li_rcF : ∀ (fs : List Fd) (d : Int), wtF fs ≤ 512 → (dpF fs : Int) ≤ d → liF R d fs = rcF R fs
  | [], _, _, _ => by rw [liF, rcF]
  | .mk n v :: r, d, h1, h2 => by
    simp only [wtF, dpF] at h1 h2
    have hl := len_wt v
    rw [liF, rcF, li_rcL v d (by omega) (by omega), li_rcF r d (by omega) (by omega)]
    have e1 : decide (1 ≤ d) = true := by simp; omega
    have e2 : decide (v.length ≤ 512) = true := by simp; omega
    rw [e1, e2]; simp
theorem li_rcL : ∀ (v : List Tm) (d : Int), wtV v ≤ 512 → (dpV v : Int) < d → liL R d v = rcL R v
  | [], _, _, _ => by rw [liL, rcL]
  | t :: r, d, h1, h2 => by
    simp only [wtV, dpV] at h1 h2
    rw [liL, rcL, li_rcT t d (by omega) (by omega), li_rcL r d (by omega) (by omega)]
end
mutual
theorem li_dpT : ∀ (t : Tm) (d : Int), 1 ≤ d → liT R d t = true → (dpT t : Int) < d
  | .mk k lo hi s a m o fs, d, h1, h2 => by
    rw [liT] at h2
    rw [dpT]
    split at h2
    · rw [anyT] at h2
      simp at h2
      rw [show fs = [] from h2.2, dpF]; omega
    · split at h2
      · simp at h2
        have := li_dpF fs (d - 1) (by omega) h2.2
        omega
      · rw [scal] at h2
        have : fs = [] := by
          by_cases hn : (o || !fs.isEmpty || (m && single (.mk k lo hi s a m o fs))) = true
          · rw [if_pos hn] at h2; cases h2
          · simp only [Bool.or_eq_true, not_or] at hn
            simpa using hn.1.2
        rw [this, dpF]; omega
theorem li_dpF : ∀ (fs : List Fd) (d : Int), 0 ≤ d → liF R d fs = true → (dpF fs : Int) ≤ d
  | [], d, h, _ => by rw [dpF]; omega
  | .mk n v :: r, d, h, h2 => by
    rw [liF] at h2
    simp at h2
    rw [dpF]
    have h3 := li_dpL v d h2.1.2.1.1.1.1 h2.1.2.1.1.2
    have h4 := li_dpF r d h h2.2
    omega
theorem li_dpL : ∀ (v : List Tm) (d : Int), 1 ≤ d → liL R d v = true → (dpV v : Int) < d
  | [], d, h, _ => by rw [dpV]; omega
  | t :: r, d, h, h2 => by
    rw [liL] at h2
    simp at h2
    rw [dpV]
    have h3 := li_dpT t d h h2.1
    have h4 := li_dpL r d h h2.2
    omega
end
/-- The program's rightness is the document's. -/
theorem li_ok (v : List Tm) : (liV R 16 v && decide (wtV v ≤ 512)) = okV R v := by
  rw [ok_is]
  unfold limV rcV
  by_cases hw : wtV v ≤ 512
  · have hl := len_wt v
    by_cases hd : depth v ≤ 16
    · have hd' := hd
      unfold depth at hd'
      unfold liV
      rw [li_rcL R v 16 hw (by omega)]
      have e2 : decide (v.length ≤ 512) = true := by simp; omega
      simp [hw, hd, e2, Bool.and_assoc]
    · have : liV R 16 v = false := by
        cases h : liV R 16 v with
        | false => rfl
        | true =>
          unfold liV at h
          simp at h
          have := li_dpL R v 16 (by omega) h.1.1.2
          unfold depth at hd
          omega
      simp [this, hd]
  · simp [hw]
end
end Go.Proofs.YtffojfcinkihnaaGreatDoor.Lat
