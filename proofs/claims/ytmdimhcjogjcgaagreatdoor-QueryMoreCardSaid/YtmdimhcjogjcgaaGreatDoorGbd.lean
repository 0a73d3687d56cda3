/- The document's parts of a pattern, and which are right. -/
import Derived.Test.YtmdimhcjogjcgaaGreatDoorGbc
set_option linter.all false
set_option maxRecDepth 100000
noncomputable section
namespace Go.Proofs.YtmdimhcjogjcgaaGreatDoor.Xp
open Go.Proofs.YtmdimhcjogjcgaaGreatDoor.Abs Go.Proofs.YtmdimhcjogjcgaaGreatDoor.Lat Go.Proofs.YtmdimhcjogjcgaaGreatDoor.Gr
open Go.Proofs.YtmdimhcjogjcgaaGreatDoor.Qw (al pre pre_nil ahj fj mf wz qv)
theorem azm {β γ : Type} {l : List β} {i : Nat} {x : β} (h : l[i]? = some x) (k : List β → Option γ) : cut l (i : Int) ((i + 1 : Nat) : Int) k = k [x] := by
 have hi := (List.getElem?_eq_some_iff.1 h).1
 unfold cut
 rw [decide_eq_true (by omega), decide_eq_true (by omega), decide_eq_true (by omega), Int.toNat_natCast, Int.toNat_natCast]
 have e : (l.take (i + 1)).drop i = [x] := by
  rw [List.take_add_one, h, List.drop_append_of_le_length (by rw [List.length_take]; omega), List.drop_eq_nil_of_le (by rw [List.length_take]; omega)]; rfl
 rw [e]; rfl
theorem acj (s : Bs) (hs : s.length ≤ 1048576) : ∀ (d i : Nat) (L : List Bs) (x : Bs), i + d = s.length → L.length ≤ i → x.length ≤ i → ep.l0 (.str s) (.own 1 (br L)) (.str x) (.int .i64 (i : Int)) = some (.own 1 (br (L ++ pre x (al (s.drop i)))))
 | 0, i, L, x, h, hL, hx => by
  rw [ep.ar, decide_eq_false (by omega), ifF, gOK (by rw [df]; simp; omega), guT, ala, bw (by omega)]
  show some (AV.own 1 (br (L ++ [x]))) = some (AV.own 1 (br (L ++ [x ++ []])))
  rw [List.append_nil]
 | d + 1, i, L, x, h, hL, hx => by
  have h1 : i < s.length := by omega
  have e1 : s[i]? = some s[i] := List.getElem?_eq_getElem h1
  rw [ep.ar, decide_eq_true (by omega), ifT, ay e1, bc h1]
  have hc : decide (((s[i].toNat : Int) : Int) = 46) = decide (s[i] = 46) := by
   refine decide_eq_decide.2 ⟨fun h => ?_, fun h => by rw [h]; rfl⟩
   have : s[i].toNat = 46 := by omega
   exact UInt8.toNat_inj.1 this
  rw [hc]
  unfold al
  by_cases h2 : s[i] = 46
  ·rw [decide_eq_true h2, ifT, if_pos h2, gOK (by rw [df]; simp; omega), guT, ala, bf (by omega), acj s hs d (i + 1) (L ++ [x]) [] (by omega) (by simp; omega) (by simp), pre_nil _ (fj _), List.append_assoc]
   show some (AV.own 1 (br (L ++ (x :: al (s.drop (i + 1)))))) = some (AV.own 1 (br (L ++ ((x ++ []) :: al (s.drop (i + 1))))))
   rw [List.append_nil]
  ·rw [decide_eq_false h2, ifF, if_neg h2, bf (by omega), azm e1, gW (by simp; omega), guT, acj s hs d (i + 1) L (x ++ [s[i]]) (by omega) (by omega) (by simp; omega), ahj _ _ _ (fj _)]
theorem wa (s : Bs) (hs : s.length ≤ 1048576) : ep (.str s) = some (.own 1 (br (al s))) := by
 have := acj s hs s.length 0 [] [] (by omega) (by simp) (by simp)
 rw [e00, List.drop_zero, pre_nil _ (fj _)] at this
 rw [ep.ae]; exact this
def va (i : Nat) (r : List Bs) (x : Bs) : Bool := decide (0 < i) && decide (r = []) && decide (x = [42, 42])
def okR : Nat → List Bs → Bool
 | _, [] => true
 | i, x :: r => (va i r x || il x) && okR (i + 1) r
theorem aiy (l : List Bs) (hl : l.length ≤ 1048577) : ∀ (d i : Nat), i + d = l.length → fy.l0 (.sl 1 (br l)) (.int .i64 (i : Int)) = some (.bool (okR i (l.drop i) && decide (l.length ≤ 16)))
 | 0, i, h => by
  rw [fy.ar, df, decide_eq_false (by omega), ifF, bw (by omega)]
  show some (AV.bool (decide ((l.length : Int) ≤ 16))) = some (AV.bool (true && decide (l.length ≤ 16)))
  rw [Bool.true_and, show decide ((l.length : Int) ≤ 16) = decide (l.length ≤ 16) from decide_eq_decide.2 (by omega)]
 | d + 1, i, h => by
  have h1 : i < l.length := by omega
  have e1 : l[i]? = some l[i] := List.getElem?_eq_getElem h1
  have ih := aiy l hl d (i + 1) (by omega)
  have hp : er (.str l[i]) = some (.bool (Rn l[i])) := ary _
  have hA : decide ((i : Int) = (((l.length - 1 : Nat)) : Int)) = decide (l.drop (i + 1) = []) := decide_eq_decide.2 (by rw [List.drop_eq_nil_iff]; omega)
  rw [fy.ar, df, decide_eq_true (by omega), ifT, tm (by omega) (by omega)]
  simp only [ay (j4 e1), aav, gx, hp, ad, en]
  rw [bf (by omega), ih, bc h1, okR, hA, show decide ((0 : Int) < (i : Int)) = decide (0 < i) from decide_eq_decide.2 (by omega)]
  unfold va il
  cases decide (0 < i) <;> cases decide (l.drop (i + 1) = []) <;> cases decide (l[i] = [42, 42]) <;> cases decide (l[i] = [42]) <;> cases Rn l[i] <;> rfl
theorem aoq : ∀ (r : List Bs) (i : Nat), 0 < i → okR i r = if r.getLast? = some [42, 42] then (r.take (r.length - 1)).all il else r.all il
 | [], i, h => by rw [okR]; rfl
 | [x], i, h => by
  rw [okR, okR]
  unfold va
  rw [decide_eq_true h]
  by_cases hx : x = [42, 42]
  ·rw [decide_eq_true hx, if_pos (by rw [hx]; rfl)]; rfl
  ·rw [decide_eq_false hx, if_neg (show ¬ [x].getLast? = some [42, 42] from fun e => hx (Option.some.inj e))]
   simp
 | x :: y :: r, i, h => by
  have ih := aoq (y :: r) (i + 1) (by omega)
  rw [okR, ih]
  have hl : va i (y :: r) x = false := by unfold va; simp
  have hg : (x :: y :: r).getLast? = (y :: r).getLast? := List.getLast?_cons_cons ..
  rw [hl, Bool.false_or, hg]
  split
  ·rw [List.length_cons (a := x), Nat.add_sub_cancel]
   show (il x && ((y :: r).take (r.length + 1 - 1)).all il) = ((x :: y :: r).take (r.length + 1)).all il
   rw [List.take_succ_cons, List.all_cons]; rfl
  ·rw [List.all_cons (a := x)]
theorem atc (L : List Bs) (h : L ≠ []) : okR 0 L = (ef L).1.all il := by
 cases L with
 | nil => exact absurd rfl h
 | cons x r =>
  have hl0 : va 0 r x = false := by unfold va; simp
  rw [okR, hl0, Bool.false_or, aoq r 1 (by omega)]
  unfold ef uk
  rw [← List.getLast?_eq_getElem?]
  cases r with
  | nil => simp
  | cons y q =>
   rw [decide_eq_true (by simp), Bool.true_and, List.getLast?_cons_cons]
   by_cases hg : (y :: q).getLast? = some [42, 42]
   ·rw [if_pos hg, if_pos (by rw [hg]; rfl)]
    show (il x && ((y :: q).take (q.length + 1 - 1)).all il) = ((x :: y :: q).take (q.length + 1 + 1 - 1)).all il
    rw [Nat.add_sub_cancel, Nat.add_sub_cancel, List.take_succ_cons, List.all_cons]
   ·rw [if_neg hg, if_neg (by simpa using hg), List.all_cons (a := x)]
theorem awq {x : Bs} (h : il x = true) : x.length ≤ 16 := by
 unfold il at h
 rw [Bool.or_eq_true] at h
 rcases h with h | h
 ·rw [of_decide_eq_true h]; decide
 ·exact al9 h
theorem ahp : ∀ (i : Nat) (L : List Bs), okR i L = true → ∀ x ∈ L, x.length ≤ 16
 | i, y :: r, h, x, hx => by
  rw [okR, Bool.and_eq_true, Bool.or_eq_true] at h
  rcases List.mem_cons.1 hx with rfl | hx
  ·rcases h.1 with h | h
   ·unfold va at h
    simp only [Bool.and_eq_true] at h
    rw [of_decide_eq_true h.2]; decide
   ·exact awq h
  ·exact ahp (i + 1) r h.2 x hx
theorem abb (s : Bs) (hs : s.length ≤ 1048576) : fy (.str s) = some (.bool (fk s)) := by
 have hl := mf s
 have := aiy (al s) (by omega) _ 0 (Nat.zero_add _)
 rw [List.drop_zero, e00] at this
 rw [fy.ae, wa s hs, ad, a2z, this]
 congr 2
 unfold fk
 rw [← atc _ (fj s)]
 by_cases h1 : okR 0 (al s) = true
 ·rw [h1, Bool.and_true, Bool.true_and]
  by_cases h2 : (al s).length ≤ 16
  ·have h3 := ahh (ahp 0 _ h1)
   have hj := qv s
   have : s.length ≤ 272 := by
    cases hc : al s with
    | nil => exact absurd hc (fj s)
    | cons x r =>
     rw [hc] at hj h3 h2
     rw [← hj, Lib.join_length]
     rw [List.length_cons] at h2 h3
     show 1 * r.length + _ ≤ 272
     omega
   rw [decide_eq_true h2, decide_eq_true this]; rfl
  ·rw [decide_eq_false h2]; simp
 ·rw [Bool.eq_false_iff.2 h1]; simp
end Go.Proofs.YtmdimhcjogjcgaaGreatDoor.Xp
namespace Go.Proofs.YtmdimhcjogjcgaaGreatDoor.Xp
open Go.Proofs.YtmdimhcjogjcgaaGreatDoor.Abs Go.Proofs.YtmdimhcjogjcgaaGreatDoor.Lat Go.Proofs.YtmdimhcjogjcgaaGreatDoor.Gr
open Go.Proofs.YtmdimhcjogjcgaaGreatDoor.Qw (al fj mf)
def mt : List Bs → Bool → List Bs → Bool
 | [], deep, p => deep || p.isEmpty
 | _ :: _, _, [] => false
 | x :: r, deep, y :: q => (decide (x = [42]) || decide (x = y)) && mt r deep q
def su (h : RH) : Hit := ⟨Lib.join h.p [46], h.v⟩
theorem aiz : ∀ (q : List Bs) (n : Bs), q ≠ [] → Lib.join (q ++ [n]) [46] = Lib.join q [46] ++ 46 :: n
 | [x], n, _ => by
  rw [List.singleton_append, Qw.wy, Lib.join_one, Lib.join_one]; simp
 | x :: y :: r, n, _ => by
  have ih := aiz (y :: r) n (by simp)
  show Lib.join (x :: y :: (r ++ [n])) [46] = _
  rw [Qw.wy, Qw.wy, show y :: (r ++ [n]) = (y :: r) ++ [n] from rfl, ih]
  simp [List.append_assoc]
def jj (l : List Bs) (deep : Bool) (k : Nat) (h : RH) : Bool := mt l deep (h.p.drop k)
mutual
theorem awr (q : List Bs) : ∀ t : Tm, ∀ h ∈ x9 q t, ∃ n r, h.p = q ++ n :: r
 | .mk _ _ _ _ _ _ _ fs, h, hm => by rw [x9] at hm; exact amp q fs h hm
theorem amp (q : List Bs) : ∀ fs : List Lat.Fd, ∀ h ∈ lb q fs, ∃ n r, h.p = q ++ n :: r
 | [], h, hm => by rw [lb] at hm; cases hm
 | .mk n v :: r, h, hm => by
  rw [lb] at hm
  rcases List.mem_append.1 hm with hm | hm
  ·rcases List.mem_cons.1 hm with rfl | hm
   ·exact ⟨n, [], rfl⟩
   ·obtain ⟨m, x, e⟩ := lf (q ++ [n]) v h hm
    exact ⟨n, m :: x, by rw [e]; simp⟩
  ·exact amp q r h hm
theorem lf (q : List Bs) : ∀ v : List Tm, ∀ h ∈ ld q v, ∃ n r, h.p = q ++ n :: r
 | [], h, hm => by rw [ld] at hm; cases hm
 | t :: r, h, hm => by
  rw [ld] at hm
  rcases List.mem_append.1 hm with hm | hm
  ·exact awr q t h hm
  ·exact lf q r h hm
end
theorem amq (q r : List Bs) : (q ++ r).drop q.length = r := by simp
theorem filter_none {α : Type} {l : List α} {f : α → Bool} (h : ∀ x ∈ l, f x = false) : l.filter f = [] := by
 rw [List.filter_eq_nil_iff]
 intro x hx c
 rw [h x hx] at c; cases c
theorem vo {α : Type} {l : List α} {f g : α → Bool} (h : ∀ x ∈ l, f x = g x) : l.filter f = l.filter g := List.filter_congr h
theorem ai0 (q : List Bs) (v : List Tm) : (ld q v).filter (jj [] false q.length) = [] := filter_none fun h hm => by
 obtain ⟨n, r, e⟩ := lf q v h hm
 unfold jj
 rw [e, amq, mt]; rfl
theorem ack {q : List Bs} {n : Bs} {h : RH} (l : List Bs) (deep : Bool) (hq : ∃ r, h.p = (q ++ [n]) ++ r) : jj l deep q.length h = match l with
  | [] => deep
  | x :: r => (decide (x = [42]) || decide (x = n)) && jj r deep (q ++ [n]).length h := by
 obtain ⟨r, e⟩ := hq
 unfold jj
 have e1 : h.p.drop q.length = n :: r := by rw [e, List.append_assoc, amq]; rfl
 have e2 : h.p.drop (q ++ [n]).length = r := by rw [e, amq]
 rw [e1, e2]
 cases l with
 | nil => rw [mt]; simp
 | cons x t => rw [mt]
mutual
theorem a3h (q : List Bs) (hq : q ≠ []) : ∀ (t : Tm) (l : List Bs) (deep : Bool), wkT (Lib.join q [46]) l deep t = if l = [] ∧ deep = false then wkT (Lib.join q [46]) l deep t else ((x9 q t).filter (jj l deep q.length)).map su
 | .mk _ _ _ _ _ _ _ fs, l, deep => by
  split
  ·rfl
  ·rename_i h
   have := atd q hq fs l deep
   rw [if_neg h] at this
   rw [wkT, x9, this]
theorem atd (q : List Bs) (hq : q ≠ []) : ∀ (fs : List Lat.Fd) (l : List Bs) (deep : Bool), wkF (Lib.join q [46]) l deep fs = if l = [] ∧ deep = false then wkF (Lib.join q [46]) l deep fs else ((lb q fs).filter (jj l deep q.length)).map su
 | [], l, deep => by
  split
  ·rfl
  ·rw [wkF, lb]; rfl
 | .mk n v :: r, l, deep => by
  split
  ·rfl
  ·rename_i hld
   have ihr := atd q hq r l deep
   rw [if_neg hld] at ihr
   have hq' : q ++ [n] ≠ [] := by simp
   have hL := fun (m : List Bs) (b : Bool) => amr (q ++ [n]) hq' v m b
   rw [wkF, lb, List.filter_append, List.map_append, ihr]
   congr 1
   have hj : Lib.join q [46] ++ 46 :: n = Lib.join (q ++ [n]) [46] := (aiz q n hq).symm
   unfold aqc
   rw [hj]
   have hmem : ∀ h ∈ (⟨q ++ [n], v⟩ :: ld (q ++ [n]) v : List RH), ∃ r, h.p = (q ++ [n]) ++ r := fun h hm => by
    rcases List.mem_cons.1 hm with rfl | hm
    ·exact ⟨[], by simp⟩
    ·obtain ⟨a, b, e⟩ := lf _ v h hm
     exact ⟨a :: b, e⟩
   cases l with
   | nil =>
    have hd : deep = true := by cases deep with
     | true => rfl
     | false => exact absurd ⟨rfl, rfl⟩ hld
    subst hd
    have h1 := hL [] true
    rw [if_neg (by simp)] at h1
    rw [vo (g := fun _ => true) (fun h hm => by rw [ack (n := n) [] true (hmem h hm)])]
    rw [h1, List.filter_congr (q := fun _ => true) (l := ld (q ++ [n]) v) (fun h hm => by unfold jj; rw [mt]; rfl)]
    simp [su]
   | cons x t =>
    by_cases hx : x = [42] ∨ x = n
    ·have hb : (decide (x = [42]) || decide (x = n)) = true := by rw [Bool.or_eq_true, decide_eq_true_eq, decide_eq_true_eq]; exact hx
     dsimp only
     rw [if_pos hx, vo (g := jj t deep (q ++ [n]).length) (fun h hm => by rw [ack (n := n) (x :: t) deep (hmem h hm)]; dsimp only; rw [hb, Bool.true_and])]
     have hk0 : jj t deep (q ++ [n]).length ⟨q ++ [n], v⟩ = t.isEmpty := by
      unfold jj
      have e : (q ++ [n]).drop (q ++ [n]).length = [] := by simp
      show mt t deep ((q ++ [n]).drop (q ++ [n]).length) = _
      rw [e]
      cases t with
      | nil => rw [mt]; simp
      | cons a b => rw [mt]; rfl
     rw [List.filter_cons, hk0]
     cases t with
     | nil =>
      cases deep with
      | true =>
       have h1 := hL [] true
       rw [if_neg (by simp)] at h1
       rw [if_pos rfl, if_pos rfl, h1]; rfl
      | false =>
       rw [if_pos rfl, if_neg (by simp)]
       show _ = List.map su (_ :: List.filter (jj [] false _) _)
       rw [ai0]; rfl
     | cons a b =>
      have h1 := hL (a :: b) deep
      rw [if_neg (by simp)] at h1
      rw [if_neg (by simp), if_neg (by simp)]
      exact h1
    ·have hb : (decide (x = [42]) || decide (x = n)) = false := by
      rw [Bool.or_eq_false_iff, decide_eq_false_iff_not, decide_eq_false_iff_not]
      exact ⟨fun e => hx (.inl e), fun e => hx (.inr e)⟩
     dsimp only
     rw [if_neg hx, filter_none fun h hm => by rw [ack (n := n) (x :: t) deep (hmem h hm)]; dsimp only; rw [hb, Bool.false_and]]
     rfl
theorem amr (q : List Bs) (hq : q ≠ []) : ∀ (v : List Tm) (l : List Bs) (deep : Bool), wkL (Lib.join q [46]) l deep v = if l = [] ∧ deep = false then wkL (Lib.join q [46]) l deep v else ((ld q v).filter (jj l deep q.length)).map su
 | [], l, deep => by
  split
  ·rfl
  ·rw [wkL, ld]; rfl
 | t :: r, l, deep => by
  split
  ·rfl
  ·rename_i h
   have h1 := a3h q hq t l deep
   have h2 := amr q hq r l deep
   rw [if_neg h] at h1 h2
   rw [wkL, ld, List.filter_append, List.map_append, h1, h2]
end
theorem a3i (q : List Bs) (hq : q ≠ []) (v : List Tm) (l : List Bs) (deep : Bool) : wkV (Lib.join q [46]) l deep v = ((vn q v).filter (jj l deep q.length)).map su := by
 have hL := amr q hq v
 have hk0 : jj l deep q.length ⟨q, v⟩ = l.isEmpty := by
  unfold jj
  have e : q.drop q.length = [] := by simp
  show mt l deep (q.drop q.length) = _
  rw [e]
  cases l with
  | nil => rw [mt]; simp
  | cons a b => rw [mt]; rfl
 unfold wkV vn
 rw [List.filter_cons, hk0]
 cases l with
 | nil =>
  cases deep with
  | true =>
   have h1 := hL [] true
   rw [if_neg (by simp)] at h1
   rw [if_pos rfl, if_pos rfl, h1]; rfl
  | false =>
   rw [if_pos rfl, if_neg (by simp)]
   show _ = List.map su (_ :: List.filter (jj [] false _) _)
   rw [ai0]; rfl
 | cons a b =>
  have h1 := hL (a :: b) deep
  rw [if_neg (by simp)] at h1
  rw [if_neg (by simp), if_neg (by simp)]
  exact h1
def rf1 (l : List Bs) (deep : Bool) (t : Th) : List RH := (vn [t.n] t.v).filter fun h => mt l deep h.p
def rfs (l : List Bs) (deep : Bool) (ts : List Th) : List RH := ts.flatMap (rf1 l deep)
theorem a3j (l : List Bs) (deep : Bool) (t : Th) (hl : l ≠ []) : fd1 l deep t = (rf1 l deep t).map su := by
 cases l with
 | nil => exact absurd rfl hl
 | cons x r =>
  have hmem : ∀ h ∈ vn [t.n] t.v, ∃ y, h.p = t.n :: y := fun h hm => by
   rcases List.mem_cons.1 hm with rfl | hm
   ·exact ⟨[], rfl⟩
   ·obtain ⟨a, b, e⟩ := lf _ t.v h hm
    exact ⟨a :: b, e⟩
  unfold fd1 rf1
  dsimp only
  by_cases hx : x = [42] ∨ x = t.n
  ·have hb : (decide (x = [42]) || decide (x = t.n)) = true := by rw [Bool.or_eq_true, decide_eq_true_eq, decide_eq_true_eq]; exact hx
   have hw := a3i [t.n] (by simp) t.v r deep
   rw [Lib.join_one] at hw
   rw [if_pos hx, hw, vo (f := fun h => mt (x :: r) deep h.p) (g := jj r deep [t.n].length) fun h hm => by
    obtain ⟨y, e⟩ := hmem h hm
    show mt (x :: r) deep h.p = mt r deep (h.p.drop 1)
    rw [e, mt, hb, Bool.true_and]; rfl]
  ·have hb : (decide (x = [42]) || decide (x = t.n)) = false := by
    rw [Bool.or_eq_false_iff, decide_eq_false_iff_not, decide_eq_false_iff_not]
    exact ⟨fun e => hx (.inl e), fun e => hx (.inr e)⟩
   rw [if_neg hx, filter_none fun h hm => by
    obtain ⟨y, e⟩ := hmem h hm
    rw [e, mt, hb, Bool.false_and]]
   rfl
theorem ate (l : List Bs) (deep : Bool) (hl : l ≠ []) : ∀ ts : List Th, fds l deep ts = (rfs l deep ts).map su
 | [] => rfl
 | t :: r => by
  have ih := ate l deep hl r
  unfold fds rfs at *
  rw [List.flatMap_cons, List.flatMap_cons, List.map_append, ih, a3j l deep t hl]
theorem ams {α : Type} (l : List (List AV)) (k : List (List AV) → Option α) : asL 2 (.sl 2 l) k = k l := rfl
theorem amt (l : List Bs) (hn : ∀ s ∈ l, s.length ≤ 16) (hl : l.length ≤ 100000) : ∀ (d i : Nat) (acc : Bs), i + d = l.length → 0 < i → acc.length ≤ 17 * i → eu.l0 (.sl 1 (br l)) (.str acc) (.int .i64 (i : Int)) = some (.str (acc ++ Lib.joinTail [46] (l.drop i)))
 | 0, i, acc, h, h0, ha => by rw [eu.ar, df, decide_eq_false (by omega), ifF, bw (by omega)]; simp [Lib.joinTail]
 | d + 1, i, acc, h, h0, ha => by
  have h1 : i < l.length := by omega
  have e1 : l[i]? = some l[i] := List.getElem?_eq_getElem h1
  have h16 := hn _ (List.getElem_mem h1)
  rw [eu.ar, df, decide_eq_true (by omega), ifT, decide_eq_true (by omega), ifT, gW (by simp; omega), guT, ay (j4 e1), aav, gx, gW (by simp; omega), guT, bf (by omega), amt l hn hl d (i + 1) _ (by omega) (by omega) (by simp; omega), bc h1, ay6]
  simp [List.append_assoc]
theorem atf {l : List Bs} (hn : ∀ s ∈ l, s.length ≤ 16) (hl : l.length ≤ 100000) : eu (.sl 1 (br l)) = some (.str (Lib.join l [46])) := by
 rw [eu.ae]
 cases l with
 | nil => rw [eu.ar]; rfl
 | cons x r =>
  have h16 := hn x (List.mem_cons_self ..)
  rw [eu.ar, df, decide_eq_true (by rw [List.length_cons]; omega), ifT, show decide ((0 : Int) < 0) = false from rfl, ifF]
  have e1 : (x :: r)[0]? = some x := rfl
  have := amt (x :: r) hn hl r.length 1 x (by simp; omega) (by omega) (by omega)
  rw [show ((0 : Int)) = ((0 : Nat) : Int) from rfl, ay (j4 e1), aav, gx, gW (by simp; omega), guT, bf (by omega), List.nil_append, this, Lib.join_cons]
  rfl
structure ahq (h : RH) : Prop where
 l : h.p.length ≤ 2000
 n : ∀ s ∈ h.p, s.length ≤ 16
 v : szV h.v ≤ 1024
theorem a3k {q : List Bs} {n : Bs} (hq : ∀ s ∈ q, s.length ≤ 16) (hn : n.length ≤ 16) : ∀ s ∈ q ++ [n], s.length ≤ 16 := fun s hs => by
 rcases List.mem_append.1 hs with hs | hs
 ·exact hq s hs
 ·rw [List.mem_singleton.1 hs]; exact hn
mutual
theorem azn : ∀ (t : Tm) (q : List Bs), (∀ s ∈ q, s.length ≤ 16) → nmT t = true → q.length + szT t ≤ 2000 → szT t ≤ 1024 → ∀ h ∈ x9 q t, ahq h
 | .mk _ _ _ _ _ _ _ fs, q, hq, hn, hl, hz, h, hm => by
  rw [szT] at hl hz
  rw [nmT] at hn
  rw [x9] at hm
  exact aor fs q hq hn (by omega) (by omega) h hm
theorem aor : ∀ (fs : List Lat.Fd) (q : List Bs), (∀ s ∈ q, s.length ≤ 16) → nmF fs = true → q.length + szF fs ≤ 2000 → szF fs ≤ 1024 → ∀ h ∈ lb q fs, ahq h
 | [], q, hq, hn, hl, hz, h, hm => by rw [lb] at hm; cases hm
 | .mk n v :: r, q, hq, hn, hl, hz, h, hm => by
  rw [szF] at hl hz
  rw [nmF, Bool.and_eq_true, Bool.and_eq_true] at hn
  have hn16 := of_decide_eq_true hn.1.1
  have hq' := a3k hq hn16
  rw [lb] at hm
  rcases List.mem_append.1 hm with hm | hm
  ·rcases List.mem_cons.1 hm with rfl | hm
   ·exact ⟨by rw [List.length_append]; simp; omega, hq', by show szV v ≤ 1024; omega⟩
   ·exact ahr v (q ++ [n]) hq' hn.1.2 (by rw [List.length_append]; simp; omega) (by omega) h hm
  ·exact aor r q hq hn.2 (by omega) (by omega) h hm
theorem ahr : ∀ (v : List Tm) (q : List Bs), (∀ s ∈ q, s.length ≤ 16) → nmL v = true → q.length + szV v ≤ 2000 → szV v ≤ 1024 → ∀ h ∈ ld q v, ahq h
 | [], q, hq, hn, hl, hz, h, hm => by rw [ld] at hm; cases hm
 | t :: r, q, hq, hn, hl, hz, h, hm => by
  rw [szV] at hl hz
  rw [nmL, Bool.and_eq_true] at hn
  rw [ld] at hm
  rcases List.mem_append.1 hm with hm | hm
  ·exact azn t q hq hn.1 (by omega) (by omega) h hm
  ·exact ahr r q hq hn.2 (by omega) (by omega) h hm
end
structure amu (t : Th) : Prop where
 v : szV t.v ≤ 1024
 m : nmL t.v = true
 n : t.n.length ≤ 16
theorem a3l {t : Th} (h : amu t) : ∀ x ∈ vn [t.n] t.v, ahq x := fun x hx => by
 have hv := h.v
 have hq : ∀ s ∈ [t.n], s.length ≤ 16 := fun s hs => by rw [List.mem_singleton.1 hs]; exact h.n
 rcases List.mem_cons.1 hx with rfl | hx
 ·exact ⟨by show 1 ≤ 2000; decide, hq, hv⟩
 ·exact ahr t.v [t.n] hq h.m (by simp; omega) hv x hx
theorem a3m {l : List Bs} {deep : Bool} {ts : List Th} (h : ∀ t ∈ ts, amu t) : ∀ x ∈ rfs l deep ts, ahq x := fun x hx => by
 unfold rfs at hx
 obtain ⟨t, ht, hx⟩ := List.mem_flatMap.1 hx
 exact a3l (h t ht) x (List.mem_filter.1 hx).1
theorem azo {l : List Bs} {deep : Bool} {t : Th} (h : amu t) : (rf1 l deep t).length ≤ 1025 := by
 have h1 := awp [t.n] t.v
 have h2 := h.v
 have h3 := List.length_filter_le (fun x : RH => mt l deep x.p) (vn [t.n] t.v)
 unfold rf1; omega
theorem aos {l : List Bs} {deep : Bool} : ∀ {ts : List Th}, (∀ t ∈ ts, amu t) → (rfs l deep ts).length ≤ 1025 * ts.length
 | [], h => by simp [rfs]
 | t :: r, h => by
  have h1 := aos (l := l) (deep := deep) (ts := r) fun t ht => h t (List.mem_cons_of_mem _ ht)
  have h2 := azo (l := l) (deep := deep) (h t (List.mem_cons_self ..))
  have e : rfs l deep (t :: r) = rf1 l deep t ++ rfs l deep r := by rw [rfs, List.flatMap_cons]; rfl
  rw [e, List.length_append, List.length_cons]; omega
end Go.Proofs.YtmdimhcjogjcgaaGreatDoor.Xp
namespace Go.Proofs.YtmdimhcjogjcgaaGreatDoor.Lat
theorem atg (a : Int) : jd a a = 0 := ae1.2 rfl
theorem ai1 (a : Bs) : ll a a = 0 := abq.2 rfl
mutual
theorem ath : ∀ t : Tm, jt t t = 0
 | .mk k lo hi s a m o fs => by rw [agz]; simp only [atg, ai1, Int.sub_self, ai2 fs, Tm.fs, uz, and_self]
theorem ai2 : ∀ fs : List Fd, ln fs fs = 0
 | [] => rfl
 | .mk n v :: r => by rw [ln, uz, uz]; exact ⟨⟨ai1 n, acm v⟩, ai2 r⟩
theorem acm : ∀ v : List Tm, iy v v = 0
 | [] => rfl
 | t :: r => by rw [iy, uz]; exact ⟨ath t, acm r⟩
end
end Go.Proofs.YtmdimhcjogjcgaaGreatDoor.Lat
namespace Go.Proofs.YtmdimhcjogjcgaaGreatDoor.Xp
open Go.Proofs.YtmdimhcjogjcgaaGreatDoor.Abs Go.Proofs.YtmdimhcjogjcgaaGreatDoor.Lat Go.Proofs.YtmdimhcjogjcgaaGreatDoor.Gr
open Go.Proofs.YtmdimhcjogjcgaaGreatDoor.Qw (al fj mf)
def rfV (ts : List Th) (s : Bs) : List RH × Int := if fk s = true then (if kf ts = true then (rfs (ef (al s)).1 (ef (al s)).2 ts, 0) else ([], 1)) else ([], 2)
theorem aqi {ts : List Th} (h : kf ts = true) : ∀ t ∈ ts, amu t := fun t ht => ⟨(aba h t ht).1, (aba h t ht).2.1, (aba h t ht).2.2⟩
theorem a3n (ts : List Th) (s : Bs) : (fdV ts s).1 = (rfV ts s).1.map su ∧ (fdV ts s).2 = (rfV ts s).2 := by
 unfold fdV rfV
 cases fk s with
 | false => exact ⟨rfl, rfl⟩
 | true =>
  cases kf ts with
  | false => exact ⟨rfl, rfl⟩
  | true => exact ⟨ate _ _ aoo ts, rfl⟩
theorem ati (ts : List Th) (s : Bs) (hl : ts.length ≤ 12) : (∀ x ∈ (rfV ts s).1, ahq x) ∧ (rfV ts s).1.length ≤ 50000 := by
 unfold rfV
 cases fk s with
 | false => exact ⟨fun x hx => by simp at hx, by simp⟩
 | true =>
  cases hr : kf ts with
  | false => exact ⟨fun x hx => by simp at hx, by simp⟩
  | true =>
   have h := aqi hr
   have := aos (l := (ef (al s)).1) (deep := (ef (al s)).2) h
   exact ⟨a3m h, by show (rfs _ _ ts).length ≤ _; omega⟩
def nmV (n : Int) : List Tm := [.mk 2 n n [] false false false []]
def bxV (fs : List Lat.Fd) : List Tm := [.mk 4 0 0 [] false false false fs]
def awQ : Th := ⟨[119, 101, 98], bxV [.mk [105, 100] (nmV 1), .mk [110, 101, 116] (bxV [.mk [110] (nmV 4)])], []⟩
theorem aws : kq (tds [awQ]) = false := by
 cases h : kq (tds [awQ]) with
 | false => rfl
 | true =>
  obtain ⟨S, ⟨k, hk⟩, hS⟩ := aps.1 h
  obtain ⟨h1, ds, h2, d, h3, h4, _⟩ := hS k hk
  simp [tds, awQ] at h2
  obtain ⟨rfl, rfl⟩ := h2
  simp at h3
theorem a3o : ([awQ].all gR && aaw (vj [awQ])) = true := by decide +kernel
theorem ai3 : kf [awQ] = true := by
 unfold kf
 rw [a3o, aws]; rfl
theorem atj : ∀ t ∈ [awQ], zf t := fun t ht => by
 rw [List.mem_singleton] at ht; subst ht
 exact ⟨by decide, by decide, by decide⟩
theorem a6i : fdV [awQ] [119, 101, 98, 46, 42] = ([⟨[119, 101, 98, 46, 105, 100], nmV 1⟩, ⟨[119, 101, 98, 46, 110, 101, 116], bxV [.mk [110] (nmV 4)]⟩], 0) := by
 unfold fdV
 rw [if_pos (by decide +kernel), if_pos ai3]; rfl
theorem a6j : fdV [awQ] [119, 101, 98, 46, 42, 42] = ([⟨[119, 101, 98], awQ.v⟩, ⟨[119, 101, 98, 46, 105, 100], nmV 1⟩, ⟨[119, 101, 98, 46, 110, 101, 116], bxV [.mk [110] (nmV 4)]⟩, ⟨[119, 101, 98, 46, 110, 101, 116, 46, 110], nmV 4⟩], 0) := by
 unfold fdV
 rw [if_pos (by decide +kernel), if_pos ai3]; rfl
theorem vc : nv = some (.bool true) := by
 have h1 : jb (.sl 3 (cf [awQ])) (.str [119, 101, 98, 46, 42]) = _ := aml ⟨by decide, atj⟩
 have h2 : jb (.sl 3 (cf [awQ])) (.str [119, 101, 98, 46, 42, 42]) = _ := aml ⟨by decide, atj⟩
 rw [a6i] at h1
 rw [a6j] at h2
 have n1 : mh (.int .i64 1) = _ := y5 (o5.ae 1)
 have n4 : mh (.int .i64 4) = _ := y5 (o5.ae 4)
 have b1 : ∀ l, um (.sl 2 l) = _ := fun l => amm (yn.ae l)
 rw [nv.ae, n1, ad, aju, n4, ad, aju, b1, ad, aju, b1, ad, aju]
 refine (congrArg (fun x => Option.bind x _) (show jb _ _ = _ from h1)).trans ?_
 simp only [ad, aqb, ams, dn]
 refine (congrArg (fun x => Option.bind x _) (show jb _ _ = _ from h2)).trans ?_
 rfl
end Go.Proofs.YtmdimhcjogjcgaaGreatDoor.Xp
namespace Go.Proofs.YtmdimhcjogjcgaaGreatDoor.Xp
open Go.Proofs.YtmdimhcjogjcgaaGreatDoor.Abs Go.Proofs.YtmdimhcjogjcgaaGreatDoor.Lat Go.Proofs.YtmdimhcjogjcgaaGreatDoor.Gr
open Go.Proofs.YtmdimhcjogjcgaaGreatDoor.Qw (al fj mf wz qv)
theorem amv : ∀ (l : List Bs) (k : Nat) (deep : Bool) (p : List Bs), mt l deep p = true → mt (l.set k [42]) deep p = true
 | [], _, _, _, h => h
 | _ :: _, _, _, [], h => by rw [mt] at h; cases h
 | x :: r, 0, deep, y :: q, h => by
  rw [mt, Bool.and_eq_true] at h
  rw [List.set_cons_zero, mt, h.2]; rfl
 | x :: r, k + 1, deep, y :: q, h => by
  rw [mt, Bool.and_eq_true] at h
  rw [List.set_cons_succ, mt, h.1, amv r k deep q h.2]; rfl
theorem amw : ∀ (l p : List Bs), (∀ x ∈ l, x ≠ [42]) → mt l false p = true → p = l
 | [], p, _, h => by rw [mt] at h; simpa using h
 | _ :: _, [], _, h => by rw [mt] at h; cases h
 | x :: r, y :: q, hx, h => by
  rw [mt, Bool.and_eq_true, decide_eq_false (hx x (List.mem_cons_self ..)), Bool.false_or, decide_eq_true_eq] at h
  rw [h.1, amw r q (fun z hz => hx z (List.mem_cons_of_mem _ hz)) h.2]
theorem atk {α : Type} {f : α → List Bs} {l : List Bs} {g : α → Bool} (hg : ∀ x, g x = true → f x = l) : ∀ {X : List α}, X.Pairwise (fun a b => f a ≠ f b) → (X.filter g).length ≤ 1
 | [], _ => Nat.zero_le _
 | x :: r, h => by
  rw [List.pairwise_cons] at h
  rw [List.filter_cons]
  split
  ·rename_i hx
   have : r.filter g = [] := filter_none fun y hy => by
    cases hc : g y with
    | false => rfl
    | true => exact absurd ((hg x hx).trans (hg y hc).symm) (h.1 y hy)
   rw [this]; exact Nat.le_refl _
  ·exact atk hg h.2
abbrev PW (X : List RH) : Prop := X.Pairwise fun a b => a.p ≠ b.p
theorem aot (q : List Bs) : ∀ fs : List Lat.Fd, ∀ h ∈ lb q fs, ∃ f ∈ fs, ∃ r, h.p = q ++ f.n :: r
 | [], h, hm => by rw [lb] at hm; cases hm
 | .mk n v :: r, h, hm => by
  rw [lb] at hm
  rcases List.mem_append.1 hm with hm | hm
  ·refine ⟨_, List.mem_cons_self .., ?_⟩
   rcases List.mem_cons.1 hm with rfl | hm
   ·exact ⟨[], rfl⟩
   ·obtain ⟨m, x, e⟩ := lf (q ++ [n]) v h hm
    exact ⟨m :: x, by rw [e]; simp [Fd.n]⟩
  ·obtain ⟨f, hf, x, e⟩ := aot q r h hm
   exact ⟨f, List.mem_cons_of_mem _ hf, x, e⟩
theorem awt {t : Tm} (h : okT Rn t = true) : (t.k = 4 ∧ ij Rn none t.fs = true ∧ okF Rn t.fs = true) ∨ t.fs = [] := by
 obtain ⟨k, lo, hi, s, a, m, o, fs⟩ := t
 rw [abz] at h
 split at h
 ·right
  have : sc (.mk k lo hi s a m o fs) = true := h
  unfold sc at this
  simp only [Bool.and_eq_true, List.isEmpty_iff] at this
  exact this.2
 ·split at h
  ·left
   rename_i h4
   rw [Bool.and_eq_true] at h
   have h1 := h.1
   unfold uc at h1
   dsimp only at h1
   rw [Bool.and_eq_true] at h1
   exact ⟨h4, h1.2, h.2⟩
  ·right
   have : ji (.mk k lo hi s a m o fs) = true := h
   have hn : ¬ (o || !fs.isEmpty || (m && single (.mk k lo hi s a m o fs))) = true := fun c => by
    unfold ji at this; dsimp only at this; rw [if_pos c] at this; cases this
   cases fs with
   | nil => rfl
   | cons x r => exact absurd (by simp) hn
theorem azp (q : List Bs) (n m : Bs) {r s : List Bs} (h : q ++ n :: r = q ++ m :: s) : n = m := by
 have := List.append_cancel_left h
 exact (List.cons.inj this).1
mutual
theorem pwT : ∀ (t : Tm) (q : List Bs), okT Rn t = true → seT false t = true → PW (x9 q t)
 | .mk k lo hi s a m o fs, q, h, hs => by
  rw [x9]
  rcases awt h with ⟨h4, hr, hf⟩ | h0
  ·have h4 : k = 4 := h4
   rw [seT, Bool.and_eq_true, if_pos h4] at hs
   exact pwF fs none q hr hf hs.2
  ·have h0 : fs = [] := h0
   rw [h0, lb]; exact List.Pairwise.nil
theorem pwF : ∀ (fs : List Lat.Fd) (p : Option Bs) (q : List Bs), ij Rn p fs = true → okF Rn fs = true → seF false fs = true → PW (lb q fs)
 | [], _, q, _, _, _ => by rw [lb]; exact List.Pairwise.nil
 | .mk n v :: r, p, q, h, k, hs => by
  have hlt := abr Rn r n (ta Rn h)
  have k' := k
  rw [aat] at k'
  simp only [Bool.and_eq_true] at k'
  rw [seF, Bool.and_eq_true] at hs
  rw [lb, PW, List.pairwise_append, List.pairwise_cons]
  refine ⟨⟨fun x hx => ?_, pwL v (q ++ [n]) (aau k'.1.2) hs.1⟩, pwF r (some n) q (ta Rn h) k'.2 hs.2, fun x hx y hy e => ?_⟩
  ·obtain ⟨m, z, e⟩ := lf (q ++ [n]) v x hx
   rw [e]
   intro c
   have := congrArg List.length c
   simp at this
  ·obtain ⟨f, hf, z, ey⟩ := aot q r y hy
   have hxp : ∃ z', x.p = q ++ n :: z' := by
    rcases List.mem_cons.1 hx with rfl | hx
    ·exact ⟨[], rfl⟩
    ·obtain ⟨m, z, e⟩ := lf (q ++ [n]) v x hx
     exact ⟨m :: z, by rw [e]; simp⟩
   obtain ⟨z', ex⟩ := hxp
   rw [ex, ey] at e
   have := azp q n f.n e
   have hb := hlt f hf
   rw [← this, ic] at hb
   cases hb
theorem pwL : ∀ (v : List Tm) (q : List Bs), okL Rn v = true → seL false v = true → PW (ld q v)
 | [], q, _, h => by rw [seL] at h; cases h; simp
 | [t], q, h, hs => by
  rw [okL, Bool.and_eq_true] at h
  rw [seL] at hs
  rw [ld, ld, List.append_nil]
  exact pwT t q h.1 hs
 | _ :: _ :: _, q, _, h => by rw [seL] at h; cases h; simp
end
def ahs (ts : List Th) : List RH := ts.flatMap fun t => vn [t.n] t.v
theorem aht (l : List Bs) (deep : Bool) (ts : List Th) : rfs l deep ts = (ahs ts).filter fun x => mt l deep x.p := by
 unfold ahs
 rw [List.filter_flatMap]; rfl
theorem a3p : ∀ (ts : List Th) (p : Option Bs), ij Rn p (fsD (vj ts)) = true → (∀ t ∈ ts, okL Rn t.v = true ∧ seL false t.v = true) → PW (ahs ts)
 | [], _, _, _ => List.Pairwise.nil
 | t :: r, p, h, k => by
  have h' : ij Rn p (.mk t.n [] :: fsD (vj r)) = true := h
  have hlt := abr Rn _ t.n (ta Rn h')
  have hk := k t (List.mem_cons_self ..)
  have e : ahs (t :: r) = vn [t.n] t.v ++ ahs r := rfl
  rw [e, PW, List.pairwise_append]
  have hin : ∀ (u : Th) (x : RH), x ∈ vn [u.n] u.v → ∃ z, x.p = u.n :: z := fun u x hx => by
   rcases List.mem_cons.1 hx with rfl | hx
   ·exact ⟨[], rfl⟩
   ·obtain ⟨m, z, e⟩ := lf [u.n] u.v x hx
    exact ⟨m :: z, e⟩
  refine ⟨?_, a3p r (some t.n) (ta Rn h') (fun u hu => k u (List.mem_cons_of_mem _ hu)), fun x hx y hy c => ?_⟩
  ·rw [vn, List.pairwise_cons]
   refine ⟨fun x hx => ?_, pwL t.v [t.n] hk.1 hk.2⟩
   obtain ⟨m, z, e⟩ := lf [t.n] t.v x hx
   rw [e]
   intro c
   have := congrArg List.length c
   simp at this
  ·obtain ⟨u, hu, hy⟩ := List.mem_flatMap.1 hy
   obtain ⟨z1, e1⟩ := hin t x hx
   obtain ⟨z2, e2⟩ := hin u y hy
   rw [e1, e2] at c
   have hn := (List.cons.inj c).1
   have hm : Lat.Fd.mk u.n [] ∈ fsD (vj r) := List.mem_map.2 ⟨u.n, List.mem_map.2 ⟨u, hu, rfl⟩, rfl⟩
   have hb := hlt _ hm
   have hb : ai t.n u.n = true := hb
   rw [hn, ic] at hb
   cases hb
theorem atl {ts : List Th} (h : kf ts = true) {P : List Bs} (hP : ∀ x ∈ P, x ≠ [42]) : (rfs P false ts).length ≤ 1 := by
 unfold kf at h
 simp only [Bool.and_eq_true] at h
 rw [aht]
 refine atk (f := fun x : RH => x.p) (l := P) (fun x hx => amw P x.p hP hx) (a3p ts none h.1.2 fun t ht => ?_)
 have hg := List.all_eq_true.1 h.1.1 t ht
 unfold gR at hg
 simp only [Bool.and_eq_true] at hg
 exact ⟨aau hg.1.1.2.1, hg.1.1.2.2⟩
def cw (P : List Bs) (k : Nat) : List Bs := if P[k]? = some [42, 42] then P else P.set k [42]
theorem awu {P : List Bs} {k : Nat} (hk : k < P.length) (h : P[k]? ≠ some [42, 42]) : uk (P.set k [42]) = uk P := by
 unfold uk
 rw [List.length_set, List.getElem?_set]
 split
 ·rename_i e
  rw [← e]
  rw [decide_eq_false h]; rfl
 ·rfl
theorem af5 {P : List Bs} {k : Nat} (hk : k < P.length) : ∃ j, (ef (cw P k)).1 = (ef P).1.set j [42] ∧ (ef (cw P k)).2 = (ef P).2 ∨ ef (cw P k) = ef P := by
 unfold cw
 by_cases h : P[k]? = some [42, 42]
 ·rw [if_pos h]; exact ⟨0, .inr rfl⟩
 ·rw [if_neg h]
  refine ⟨k, .inl ?_⟩
  unfold ef
  rw [awu hk h]
  split
  ·exact ⟨by rw [List.length_set, List.take_set], rfl⟩
  ·exact ⟨rfl, rfl⟩
theorem azq {P : List Bs} {k : Nat} (hk : k < P.length) (ts : List Th) : (rfs (ef P).1 (ef P).2 ts).Sublist (rfs (ef (cw P k)).1 (ef (cw P k)).2 ts) := by
 rw [aht, aht]
 have key : ∀ x : RH, mt (ef P).1 (ef P).2 x.p = true → mt (ef (cw P k)).1 (ef (cw P k)).2 x.p = true := fun x hx => by
  obtain ⟨j, ⟨e1, e2⟩ | e⟩ := af5 hk
  ·rw [e1, e2]; exact amv _ _ _ _ hx
  ·rw [e]; exact hx
 generalize mt (ef P).1 (ef P).2 = f at key
 generalize mt (ef (cw P k)).1 (ef (cw P k)).2 = g at key
 generalize ahs ts = X
 induction X with
 | nil => exact List.Sublist.slnil
 | cons x r ih =>
  rw [List.filter_cons, List.filter_cons]
  by_cases hf : f x.p = true
  ·rw [if_pos hf, if_pos (key x hf)]; exact ih.cons_cons x
  ·rw [if_neg hf]
   split
   ·exact ih.cons x
   ·exact ih
theorem ai4 {P : List Bs} {k : Nat} {x : Bs} (h : x ∈ cw P k) : x = [42] ∨ x ∈ P := by
 unfold cw at h
 split at h
 ·exact .inr h
 ·rcases List.mem_or_eq_of_mem_set h with h | h
  ·exact .inr h
  ·exact .inl h
theorem azr {l : List Bs} (h : l.all il = true) : ∀ j, (l.set j [42]).all il = true := fun j => by
 rw [List.all_eq_true] at h ⊢
 intro x hx
 rcases List.mem_or_eq_of_mem_set hx with hx | rfl
 ·exact h x hx
 ·rfl
end Go.Proofs.YtmdimhcjogjcgaaGreatDoor.Xp
