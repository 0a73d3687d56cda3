/- The document's parts of a pattern, and which are right. -/
import Derived.Test.YtmdimhcjogjcgaaGreatDoorGbl
set_option linter.all false
set_option maxRecDepth 100000
noncomputable section
namespace Go.Proofs.YtmdimhcjogjcgaaGreatDoor.Xp
open Go.Proofs.YtmdimhcjogjcgaaGreatDoor.Abs Go.Proofs.YtmdimhcjogjcgaaGreatDoor.Lat Go.Proofs.YtmdimhcjogjcgaaGreatDoor.Gr
open Go.Proofs.YtmdimhcjogjcgaaGreatDoor.Qw (eu pre pre_nil aye np yf ayf ak4)
theorem bc3 {β γ : Type} {l : List β} {i : Nat} {x : β} (h : l[i]? = some x) (k : List β → Option γ) : cut l (i : Int) ((i + 1 : Nat) : Int) k = k [x] := by
 have hi := (List.getElem?_eq_some_iff.1 h).1
 unfold cut
 rw [decide_eq_true (by omega), decide_eq_true (by omega), decide_eq_true (by omega), Int.toNat_natCast, Int.toNat_natCast]
 have e : (l.take (i + 1)).drop i = [x] := by
  rw [List.take_add_one, h, List.drop_append_of_le_length (by rw [List.length_take]; omega), List.drop_eq_nil_of_le (by rw [List.length_take]; omega)]; rfl
 rw [e]; rfl
theorem aih (s : Bs) (hs : s.length ≤ 1048576) : ∀ (d i : Nat) (L : List Bs) (x : Bs), i + d = s.length → L.length ≤ i → x.length ≤ i → iq.l0 (.str s) (.own 1 (ar L)) (.str x) (.int .i64 (i : Int)) = some (.own 1 (ar (L ++ pre x (eu (s.drop i)))))
 | 0, i, L, x, h, hL, hx => by
  rw [iq.ai, decide_eq_false (by omega), ifF, gOK (by rw [br]; simp; omega), guT, oa, bc (by omega)]
  show some (AV.own 1 (ar (L ++ [x]))) = some (AV.own 1 (ar (L ++ [x ++ []])))
  rw [List.append_nil]
 | d + 1, i, L, x, h, hL, hx => by
  have h1 : i < s.length := by omega
  have e1 : s[i]? = some s[i] := List.getElem?_eq_getElem h1
  rw [iq.ai, decide_eq_true (by omega), ifT, an e1, au h1]
  have hc : decide (((s[i].toNat : Int) : Int) = 46) = decide (s[i] = 46) := by
   refine decide_eq_decide.2 ⟨fun h => ?_, fun h => by rw [h]; rfl⟩
   have : s[i].toNat = 46 := by omega
   exact UInt8.toNat_inj.1 this
  rw [hc]
  unfold eu
  by_cases h2 : s[i] = 46
  ·rw [decide_eq_true h2, ifT, if_pos h2, gOK (by rw [br]; simp; omega), guT, oa, aj (by omega), aih s hs d (i + 1) (L ++ [x]) [] (by omega) (by simp; omega) (by simp), pre_nil _ (np _), List.append_assoc]
   show some (AV.own 1 (ar (L ++ (x :: eu (s.drop (i + 1)))))) = some (AV.own 1 (ar (L ++ ((x ++ []) :: eu (s.drop (i + 1))))))
   rw [List.append_nil]
  ·rw [decide_eq_false h2, ifF, if_neg h2, aj (by omega), bc3 e1, gW (by simp; omega), guT, aih s hs d (i + 1) L (x ++ [s[i]]) (by omega) (by omega) (by simp; omega), aye _ _ _ (np _)]
theorem am9 (s : Bs) (hs : s.length ≤ 1048576) : iq (.str s) = some (.own 1 (ar (eu s))) := by
 have := aih s hs s.length 0 [] [] (by omega) (by simp) (by simp)
 rw [e00, List.drop_zero, pre_nil _ (np _)] at this
 rw [iq.ae]; exact this
def aa9 (i : Nat) (r : List Bs) (x : Bs) : Bool := decide (0 < i) && decide (r = []) && decide (x = [42, 42])
def okR : Nat → List Bs → Bool
 | _, [] => true
 | i, x :: r => (aa9 i r x || kz x) && okR (i + 1) r
theorem aqv (l : List Bs) (hl : l.length ≤ 1048577) : ∀ (d i : Nat), i + d = l.length → jw.l0 (.sl 1 (ar l)) (.int .i64 (i : Int)) = some (.bool (okR i (l.drop i) && decide (l.length ≤ 16)))
 | 0, i, h => by
  rw [jw.ai, br, decide_eq_false (by omega), ifF, bc (by omega)]
  show some (AV.bool (decide ((l.length : Int) ≤ 16))) = some (AV.bool (true && decide (l.length ≤ 16)))
  rw [Bool.true_and, show decide ((l.length : Int) ≤ 16) = decide (l.length ≤ 16) from decide_eq_decide.2 (by omega)]
 | d + 1, i, h => by
  have h1 : i < l.length := by omega
  have e1 : l[i]? = some l[i] := List.getElem?_eq_getElem h1
  have ih := aqv l hl d (i + 1) (by omega)
  have hp : ir (.str l[i]) = some (.bool (Rn l[i])) := apf _
  have hA : decide ((i : Int) = (((l.length - 1 : Nat)) : Int)) = decide (l.drop (i + 1) = []) := decide_eq_decide.2 (by rw [List.drop_eq_nil_iff]; omega)
  rw [jw.ai, br, decide_eq_true (by omega), ifT, rh (by omega) (by omega)]
  simp only [an (gn e1), pw, cf, hp, ab, bq]
  rw [aj (by omega), ih, au h1, okR, hA, show decide ((0 : Int) < (i : Int)) = decide (0 < i) from decide_eq_decide.2 (by omega)]
  unfold aa9 kz
  cases decide (0 < i) <;> cases decide (l.drop (i + 1) = []) <;> cases decide (l[i] = [42, 42]) <;> cases decide (l[i] = [42]) <;> cases Rn l[i] <;> rfl
theorem ayj : ∀ (r : List Bs) (i : Nat), 0 < i → okR i r = if r.getLast? = some [42, 42] then (r.take (r.length - 1)).all kz else r.all kz
 | [], i, h => by rw [okR]; rfl
 | [x], i, h => by
  rw [okR, okR]
  unfold aa9
  rw [decide_eq_true h]
  by_cases hx : x = [42, 42]
  ·rw [decide_eq_true hx, if_pos (by rw [hx]; rfl)]; rfl
  ·rw [decide_eq_false hx, if_neg (show ¬ [x].getLast? = some [42, 42] from fun e => hx (Option.some.inj e))]
   simp
 | x :: y :: r, i, h => by
  have ih := ayj (y :: r) (i + 1) (by omega)
  rw [okR, ih]
  have hl : aa9 i (y :: r) x = false := by unfold aa9; simp
  have hg : (x :: y :: r).getLast? = (y :: r).getLast? := List.getLast?_cons_cons ..
  rw [hl, Bool.false_or, hg]
  split
  ·rw [List.length_cons (a := x), Nat.add_sub_cancel]
   show (kz x && ((y :: r).take (r.length + 1 - 1)).all kz) = ((x :: y :: r).take (r.length + 1)).all kz
   rw [List.take_succ_cons, List.all_cons]; rfl
  ·rw [List.all_cons (a := x)]
theorem bgr (L : List Bs) (h : L ≠ []) : okR 0 L = (iw L).1.all kz := by
 cases L with
 | nil => exact absurd rfl h
 | cons x r =>
  have hl0 : aa9 0 r x = false := by unfold aa9; simp
  rw [okR, hl0, Bool.false_or, ayj r 1 (by omega)]
  unfold iw ab0
  rw [← List.getLast?_eq_getElem?]
  cases r with
  | nil => simp
  | cons y q =>
   rw [decide_eq_true (by simp), Bool.true_and, List.getLast?_cons_cons]
   by_cases hg : (y :: q).getLast? = some [42, 42]
   ·rw [if_pos hg, if_pos (by rw [hg]; rfl)]
    show (kz x && ((y :: q).take (q.length + 1 - 1)).all kz) = ((x :: y :: q).take (q.length + 1 + 1 - 1)).all kz
    rw [Nat.add_sub_cancel, Nat.add_sub_cancel, List.take_succ_cons, List.all_cons]
   ·rw [if_neg hg, if_neg (by simpa using hg), List.all_cons (a := x)]
theorem a9m {x : Bs} (h : kz x = true) : x.length ≤ 16 := by
 unfold kz at h
 rw [Bool.or_eq_true] at h
 rcases h with h | h
 ·rw [of_decide_eq_true h]; decide
 ·exact aua h
theorem ayk : ∀ (i : Nat) (L : List Bs), okR i L = true → ∀ x ∈ L, x.length ≤ 16
 | i, y :: r, h, x, hx => by
  rw [okR, Bool.and_eq_true, Bool.or_eq_true] at h
  rcases List.mem_cons.1 hx with rfl | hx
  ·rcases h.1 with h | h
   ·unfold aa9 at h
    simp only [Bool.and_eq_true] at h
    rw [of_decide_eq_true h.2]; decide
   ·exact a9m h
  ·exact ayk (i + 1) r h.2 x hx
theorem ana (s : Bs) (hs : s.length ≤ 1048576) : jw (.str s) = some (.bool (jf s)) := by
 have hl := yf s
 have := aqv (eu s) (by omega) _ 0 (Nat.zero_add _)
 rw [List.drop_zero, e00] at this
 rw [jw.ae, am9 s hs, ab, a3b, this]
 congr 2
 unfold jf
 rw [← bgr _ (np s)]
 by_cases h1 : okR 0 (eu s) = true
 ·rw [h1, Bool.and_true, Bool.true_and]
  by_cases h2 : (eu s).length ≤ 16
  ·have h3 := ajb (ayk 0 _ h1)
   have hj := ak4 s
   have : s.length ≤ 272 := by
    cases hc : eu s with
    | nil => exact absurd hc (np s)
    | cons x r =>
     rw [hc] at hj h3 h2
     rw [← hj, Lib.join_length]
     rw [List.length_cons] at h2 h3
     show 1 * r.length + _ ≤ 272
     omega
   rw [decide_eq_true h2, decide_eq_true this]; rfl
  ·rw [decide_eq_false h2]; simp
 ·rw [Bool.eq_false_iff.2 h1]; simp
end Go.Proofs.YtmdimhcjogjcgaaGreatDoor.Xp
namespace Go.Proofs.YtmdimhcjogjcgaaGreatDoor.Xp
open Go.Proofs.YtmdimhcjogjcgaaGreatDoor.Abs Go.Proofs.YtmdimhcjogjcgaaGreatDoor.Lat Go.Proofs.YtmdimhcjogjcgaaGreatDoor.Gr
open Go.Proofs.YtmdimhcjogjcgaaGreatDoor.Qw (eu np yf)
def mt : List Bs → Bool → List Bs → Bool
 | [], deep, p => deep || p.isEmpty
 | _ :: _, _, [] => false
 | x :: r, deep, y :: q => (decide (x = [42]) || decide (x = y)) && mt r deep q
def mtA : List Bs → List Bs → Bool
 | [], _ => true
 | _ :: _, [] => false
 | x :: r, y :: q => (decide (x = [42]) || decide (x = y)) && mtA r q
theorem ban : ∀ (l : List Bs) (deep : Bool) (p : List Bs), mt l deep p = (decide (l.length ≤ p.length) && ((deep || decide (p.length ≤ l.length)) && mtA l p))
 | [], deep, p => by
  rw [mt, mtA]
  cases p <;> simp
 | x :: r, deep, [] => by rw [mt]; simp
 | x :: r, deep, y :: q => by
  rw [mt, mtA, ban r deep q]
  simp only [List.length_cons, Nat.add_le_add_iff_right]
  cases (decide (x = [42]) || decide (x = y)) <;> cases decide (r.length ≤ q.length) <;> cases (deep || decide (q.length ≤ r.length)) <;> simp
theorem aqw (P p l : List Bs) (hP : ∀ i, i < l.length → P[i]? = l[i]?) (hp : l.length ≤ p.length) (hl : l.length ≤ 1048577) : ∀ (d i : Nat), i + d = l.length →
  dw.l1 (.sl 1 (ar P)) (.sl 1 (ar p)) (.int .i64 (l.length : Int)) (.int .i64 (i : Int)) = some (.bool (mtA (l.drop i) (p.drop i)))
 | 0, i, h => by rw [dw.en, decide_eq_false (by omega), ifF, bc (by omega)]; rfl
 | d + 1, i, h => by
  have h1 : i < l.length := by omega
  have h2 : i < p.length := by omega
  have e1 : P[i]? = some l[i] := by rw [hP i h1]; exact List.getElem?_eq_getElem h1
  have e2 : p[i]? = some p[i] := List.getElem?_eq_getElem h2
  have ih := aqw P p l hP hp hl d (i + 1) (by omega)
  rw [dw.en, decide_eq_true (by omega), ifT, aj (by omega)]
  simp only [an (gn e1), an (gn e2), pw, cf, ab, ih]
  rw [au h1, au h2, mtA]
  cases decide (l[i] = [42]) <;> cases decide (l[i] = p[i]) <;> rfl
theorem a9n {P : List Bs} (h : P ≠ []) (hp : (iw P).1.all kz = true) : (P[P.length - 1]? = some [42, 42] → ab0 P = true) := fun e => by
 unfold ab0
 rw [e]
 by_cases h1 : 1 < P.length
 ·rw [decide_eq_true h1]; rfl
 ·exfalso
  match P, h with
  | [x], _ =>
   have hx : x = [42, 42] := Option.some.inj e
   subst hx
   have : (iw [[42, 42]]).1.all kz = false := by decide +kernel
   rw [this] at hp; cases hp
  | x :: y :: r, _ => simp at h1
theorem a0q (P p : List Bs) (h : P ≠ []) (hl : P.length ≤ 1048577) (hpl : p.length ≤ 1048577) (hp : (iw P).1.all kz = true) : dw (.sl 1 (ar P)) (.sl 1 (ar p)) = some (.bool (mt (iw P).1 (iw P).2 p)) := by
 have h0 : 0 < P.length := List.length_pos_iff.2 h
 have e1 : P[P.length - 1]? = some P[P.length - 1] := List.getElem?_eq_getElem (by omega)
 have hlast := a9n h hp
 rw [e1] at hlast
 rw [dw.ae, br, rh (by omega) h0, an (gn e1), pw, cf, ban]
 have fin : ∀ (l : List Bs) (b : Bool), (∀ i, i < l.length → P[i]? = l[i]?) → l.length ≤ 1048577 → dw.j0 (.sl 1 (ar P)) (.sl 1 (ar p)) (.int .i64 (l.length : Int)) (.bool b) = some (.bool (decide (l.length ≤ p.length) && ((b || decide (p.length ≤ l.length)) && mtA l p))) := fun l b hP hl => by
  rw [dw.wh, br]
  by_cases h1 : l.length ≤ p.length
  ·have hm := aqw P p l hP h1 hl _ 0 (Nat.zero_add _)
   rw [List.drop_zero, List.drop_zero, e00] at hm
   rw [decide_eq_false (show ¬ (p.length : Int) < (l.length : Int) by omega), ifF, hm, decide_eq_true h1, Bool.true_and]
   by_cases h2 : p.length ≤ l.length
   ·rw [decide_eq_false (show ¬ (l.length : Int) < (p.length : Int) by omega), decide_eq_true h2]
    cases b <;> rfl
   ·rw [decide_eq_true (show (l.length : Int) < (p.length : Int) by omega), decide_eq_false h2]
    cases b <;> rfl
  ·rw [decide_eq_true (show (p.length : Int) < (l.length : Int) by omega), ifT, decide_eq_false h1]; rfl
 by_cases hL : P[P.length - 1] = [42, 42]
 ·have hM := hlast (by rw [hL])
  have hc : iw P = (P.take (P.length - 1), true) := by unfold iw; rw [if_pos hM]
  have hlen : (P.take (P.length - 1)).length = P.length - 1 := by rw [List.length_take]; omega
  rw [decide_eq_true hL, ifT, hc]
  have := fin (P.take (P.length - 1)) true (fun i hi => by rw [List.getElem?_take, if_pos (by omega)]) (by omega)
  rw [hlen] at this
  rw [hlen]; exact this
 ·have hM : ¬ ab0 P = true := fun c => by
   unfold ab0 at c
   rw [Bool.and_eq_true, e1] at c
   exact hL (Option.some.inj (of_decide_eq_true c.2))
  have hc : iw P = (P, false) := by unfold iw; rw [if_neg hM]
  rw [decide_eq_false hL, ifF, hc]
  exact fin P false (fun i _ => rfl) hl
def jv (h : RH) : Hit := ⟨Lib.join h.p [46], h.v⟩
theorem aqx : ∀ (q : List Bs) (n : Bs), q ≠ [] → Lib.join (q ++ [n]) [46] = Lib.join q [46] ++ 46 :: n
 | [x], n, _ => by
  rw [List.singleton_append, Qw.ajg, Lib.join_one, Lib.join_one]; simp
 | x :: y :: r, n, _ => by
  have ih := aqx (y :: r) n (by simp)
  show Lib.join (x :: y :: (r ++ [n])) [46] = _
  rw [Qw.ajg, Qw.ajg, show y :: (r ++ [n]) = (y :: r) ++ [n] from rfl, ih]
  simp [List.append_assoc]
def om (l : List Bs) (deep : Bool) (k : Nat) (h : RH) : Bool := mt l deep (h.p.drop k)
mutual
theorem a9o (q : List Bs) : ∀ t : Tm, ∀ h ∈ ads q t, ∃ n r, h.p = q ++ n :: r
 | .mk _ _ _ _ _ _ _ fs, h, hm => by rw [ads] at hm; exact avv q fs h hm
theorem avv (q : List Bs) : ∀ fs : List Lat.Fd, ∀ h ∈ kc q fs, ∃ n r, h.p = q ++ n :: r
 | [], h, hm => by rw [kc] at hm; cases hm
 | .mk n v :: r, h, hm => by
  rw [kc] at hm
  rcases List.mem_append.1 hm with hm | hm
  ·rcases List.mem_cons.1 hm with rfl | hm
   ·exact ⟨n, [], rfl⟩
   ·obtain ⟨m, x, e⟩ := ady (q ++ [n]) v h hm
    exact ⟨n, m :: x, by rw [e]; simp⟩
  ·exact avv q r h hm
theorem ady (q : List Bs) : ∀ v : List Tm, ∀ h ∈ il q v, ∃ n r, h.p = q ++ n :: r
 | [], h, hm => by rw [il] at hm; cases hm
 | t :: r, h, hm => by
  rw [il] at hm
  rcases List.mem_append.1 hm with hm | hm
  ·exact a9o q t h hm
  ·exact ady q r h hm
end
theorem avw (q r : List Bs) : (q ++ r).drop q.length = r := by simp
theorem filter_none {α : Type} {l : List α} {f : α → Bool} (h : ∀ x ∈ l, f x = false) : l.filter f = [] := by
 rw [List.filter_eq_nil_iff]
 intro x hx c
 rw [h x hx] at c; cases c
theorem abn {α : Type} {l : List α} {f g : α → Bool} (h : ∀ x ∈ l, f x = g x) : l.filter f = l.filter g := List.filter_congr h
theorem aqy (q : List Bs) (v : List Tm) : (il q v).filter (om [] false q.length) = [] := filter_none fun h hm => by
 obtain ⟨n, r, e⟩ := ady q v h hm
 unfold om
 rw [e, avw, mt]; rfl
theorem aii {q : List Bs} {n : Bs} {h : RH} (l : List Bs) (deep : Bool) (hq : ∃ r, h.p = (q ++ [n]) ++ r) : om l deep q.length h = match l with
  | [] => deep
  | x :: r => (decide (x = [42]) || decide (x = n)) && om r deep (q ++ [n]).length h := by
 obtain ⟨r, e⟩ := hq
 unfold om
 have e1 : h.p.drop q.length = n :: r := by rw [e, List.append_assoc, avw]; rfl
 have e2 : h.p.drop (q ++ [n]).length = r := by rw [e, avw]
 rw [e1, e2]
 cases l with
 | nil => rw [mt]; simp
 | cons x t => rw [mt]
mutual
theorem bgs (q : List Bs) (hq : q ≠ []) : ∀ (t : Tm) (l : List Bs) (deep : Bool), wkT (Lib.join q [46]) l deep t = if l = [] ∧ deep = false then wkT (Lib.join q [46]) l deep t else ((ads q t).filter (om l deep q.length)).map jv
 | .mk _ _ _ _ _ _ _ fs, l, deep => by
  split
  ·rfl
  ·rename_i h
   have := a5d q hq fs l deep
   rw [if_neg h] at this
   rw [wkT, ads, this]
theorem a5d (q : List Bs) (hq : q ≠ []) : ∀ (fs : List Lat.Fd) (l : List Bs) (deep : Bool), wkF (Lib.join q [46]) l deep fs = if l = [] ∧ deep = false then wkF (Lib.join q [46]) l deep fs else ((kc q fs).filter (om l deep q.length)).map jv
 | [], l, deep => by
  split
  ·rfl
  ·rw [wkF, kc]; rfl
 | .mk n v :: r, l, deep => by
  split
  ·rfl
  ·rename_i hld
   have ihr := a5d q hq r l deep
   rw [if_neg hld] at ihr
   have hq' : q ++ [n] ≠ [] := by simp
   have hL := fun (m : List Bs) (b : Bool) => avx (q ++ [n]) hq' v m b
   rw [wkF, kc, List.filter_append, List.map_append, ihr]
   congr 1
   have hj : Lib.join q [46] ++ 46 :: n = Lib.join (q ++ [n]) [46] := (aqx q n hq).symm
   unfold a0g
   rw [hj]
   have hmem : ∀ h ∈ (⟨q ++ [n], v⟩ :: il (q ++ [n]) v : List RH), ∃ r, h.p = (q ++ [n]) ++ r := fun h hm => by
    rcases List.mem_cons.1 hm with rfl | hm
    ·exact ⟨[], by simp⟩
    ·obtain ⟨a, b, e⟩ := ady _ v h hm
     exact ⟨a :: b, e⟩
   cases l with
   | nil =>
    have hd : deep = true := by cases deep with
     | true => rfl
     | false => exact absurd ⟨rfl, rfl⟩ hld
    subst hd
    have h1 := hL [] true
    rw [if_neg (by simp)] at h1
    rw [abn (g := fun _ => true) (fun h hm => by rw [aii (n := n) [] true (hmem h hm)])]
    rw [h1, List.filter_congr (q := fun _ => true) (l := il (q ++ [n]) v) (fun h hm => by unfold om; rw [mt]; rfl)]
    simp [jv]
   | cons x t =>
    by_cases hx : x = [42] ∨ x = n
    ·have hb : (decide (x = [42]) || decide (x = n)) = true := by rw [Bool.or_eq_true, decide_eq_true_eq, decide_eq_true_eq]; exact hx
     dsimp only
     rw [if_pos hx, abn (g := om t deep (q ++ [n]).length) (fun h hm => by rw [aii (n := n) (x :: t) deep (hmem h hm)]; dsimp only; rw [hb, Bool.true_and])]
     have hk0 : om t deep (q ++ [n]).length ⟨q ++ [n], v⟩ = t.isEmpty := by
      unfold om
      have e : (q ++ [n]).drop (q ++ [n]).length = [] := by simp
      show mt t deep ((q ++ [n]).drop (q ++ [n]).length) = _
      rw [e]
      cases t with
      | nil => rw [mt]; simp
      | cons a b => rw [mt]; rfl
     rw [List.filter_cons, hk0]
     cases t with
     | nil =>
      cases deep with
      | true =>
       have h1 := hL [] true
       rw [if_neg (by simp)] at h1
       rw [if_pos rfl, if_pos rfl, h1]; rfl
      | false =>
       rw [if_pos rfl, if_neg (by simp)]
       show _ = List.map jv (_ :: List.filter (om [] false _) _)
       rw [aqy]; rfl
     | cons a b =>
      have h1 := hL (a :: b) deep
      rw [if_neg (by simp)] at h1
      rw [if_neg (by simp), if_neg (by simp)]
      exact h1
    ·have hb : (decide (x = [42]) || decide (x = n)) = false := by
      rw [Bool.or_eq_false_iff, decide_eq_false_iff_not, decide_eq_false_iff_not]
      exact ⟨fun e => hx (.inl e), fun e => hx (.inr e)⟩
     dsimp only
     rw [if_neg hx, filter_none fun h hm => by rw [aii (n := n) (x :: t) deep (hmem h hm)]; dsimp only; rw [hb, Bool.false_and]]
     rfl
theorem avx (q : List Bs) (hq : q ≠ []) : ∀ (v : List Tm) (l : List Bs) (deep : Bool), wkL (Lib.join q [46]) l deep v = if l = [] ∧ deep = false then wkL (Lib.join q [46]) l deep v else ((il q v).filter (om l deep q.length)).map jv
 | [], l, deep => by
  split
  ·rfl
  ·rw [wkL, il]; rfl
 | t :: r, l, deep => by
  split
  ·rfl
  ·rename_i h
   have h1 := bgs q hq t l deep
   have h2 := avx q hq r l deep
   rw [if_neg h] at h1 h2
   rw [wkL, il, List.filter_append, List.map_append, h1, h2]
end
theorem bgt (q : List Bs) (hq : q ≠ []) (v : List Tm) (l : List Bs) (deep : Bool) : wkV (Lib.join q [46]) l deep v = ((qb q v).filter (om l deep q.length)).map jv := by
 have hL := avx q hq v
 have hk0 : om l deep q.length ⟨q, v⟩ = l.isEmpty := by
  unfold om
  have e : q.drop q.length = [] := by simp
  show mt l deep (q.drop q.length) = _
  rw [e]
  cases l with
  | nil => rw [mt]; simp
  | cons a b => rw [mt]; rfl
 unfold wkV qb
 rw [List.filter_cons, hk0]
 cases l with
 | nil =>
  cases deep with
  | true =>
   have h1 := hL [] true
   rw [if_neg (by simp)] at h1
   rw [if_pos rfl, if_pos rfl, h1]; rfl
  | false =>
   rw [if_pos rfl, if_neg (by simp)]
   show _ = List.map jv (_ :: List.filter (om [] false _) _)
   rw [aqy]; rfl
 | cons a b =>
  have h1 := hL (a :: b) deep
  rw [if_neg (by simp)] at h1
  rw [if_neg (by simp), if_neg (by simp)]
  exact h1
def rf1 (l : List Bs) (deep : Bool) (t : Th) : List RH := (qb [t.n] t.v).filter fun h => mt l deep h.p
def rfs (l : List Bs) (deep : Bool) (ts : List Th) : List RH := ts.flatMap (rf1 l deep)
theorem bgu (l : List Bs) (deep : Bool) (t : Th) (hl : l ≠ []) : fd1 l deep t = (rf1 l deep t).map jv := by
 cases l with
 | nil => exact absurd rfl hl
 | cons x r =>
  have hmem : ∀ h ∈ qb [t.n] t.v, ∃ y, h.p = t.n :: y := fun h hm => by
   rcases List.mem_cons.1 hm with rfl | hm
   ·exact ⟨[], rfl⟩
   ·obtain ⟨a, b, e⟩ := ady _ t.v h hm
    exact ⟨a :: b, e⟩
  unfold fd1 rf1
  dsimp only
  by_cases hx : x = [42] ∨ x = t.n
  ·have hb : (decide (x = [42]) || decide (x = t.n)) = true := by rw [Bool.or_eq_true, decide_eq_true_eq, decide_eq_true_eq]; exact hx
   have hw := bgt [t.n] (by simp) t.v r deep
   rw [Lib.join_one] at hw
   rw [if_pos hx, hw, abn (f := fun h => mt (x :: r) deep h.p) (g := om r deep [t.n].length) fun h hm => by
    obtain ⟨y, e⟩ := hmem h hm
    show mt (x :: r) deep h.p = mt r deep (h.p.drop 1)
    rw [e, mt, hb, Bool.true_and]; rfl]
  ·have hb : (decide (x = [42]) || decide (x = t.n)) = false := by
    rw [Bool.or_eq_false_iff, decide_eq_false_iff_not, decide_eq_false_iff_not]
    exact ⟨fun e => hx (.inl e), fun e => hx (.inr e)⟩
   rw [if_neg hx, filter_none fun h hm => by
    obtain ⟨y, e⟩ := hmem h hm
    rw [e, mt, hb, Bool.false_and]]
   rfl
theorem a5e (l : List Bs) (deep : Bool) (hl : l ≠ []) : ∀ ts : List Th, fds l deep ts = (rfs l deep ts).map jv
 | [] => rfl
 | t :: r => by
  have ih := a5e l deep hl r
  unfold fds rfs at *
  rw [List.flatMap_cons, List.flatMap_cons, List.map_append, ih, bgu l deep t hl]
theorem avy {α : Type} (l : List (List AV)) (k : List (List AV) → Option α) : asL 2 (.sl 2 l) k = k l := rfl
theorem bgv {α : Type} (l : List (List AV)) (k : List (List AV) → Option α) : asL 2 (.own 2 l) k = k l := rfl
theorem rh0 {α : Type} (h : RH) (k : AV → Option α) : aa (ah8 h) 0 k = k (.sl 1 (ar h.p)) := rfl
theorem rh1 {α : Type} (h : RH) (k : AV → Option α) : aa (ah8 h) 1 k = k (.sl 8 (al h.v)) := rfl
theorem avz (l : List Bs) (hn : ∀ s ∈ l, s.length ≤ 16) (hl : l.length ≤ 100000) : ∀ (d i : Nat) (acc : Bs), i + d = l.length → 0 < i → acc.length ≤ 17 * i → ik.l0 (.sl 1 (ar l)) (.str acc) (.int .i64 (i : Int)) = some (.str (acc ++ Lib.joinTail [46] (l.drop i)))
 | 0, i, acc, h, h0, ha => by rw [ik.ai, br, decide_eq_false (by omega), ifF, bc (by omega)]; simp [Lib.joinTail]
 | d + 1, i, acc, h, h0, ha => by
  have h1 : i < l.length := by omega
  have e1 : l[i]? = some l[i] := List.getElem?_eq_getElem h1
  have h16 := hn _ (List.getElem_mem h1)
  rw [ik.ai, br, decide_eq_true (by omega), ifT, decide_eq_true (by omega), ifT, gW (by simp; omega), guT, an (gn e1), pw, cf, gW (by simp; omega), guT, aj (by omega), avz l hn hl d (i + 1) _ (by omega) (by omega) (by simp; omega), au h1, ai9]
  simp [List.append_assoc]
theorem aqz {l : List Bs} (hn : ∀ s ∈ l, s.length ≤ 16) (hl : l.length ≤ 100000) : ik (.sl 1 (ar l)) = some (.str (Lib.join l [46])) := by
 rw [ik.ae]
 cases l with
 | nil => rw [ik.ai]; rfl
 | cons x r =>
  have h16 := hn x (List.mem_cons_self ..)
  rw [ik.ai, br, decide_eq_true (by rw [List.length_cons]; omega), ifT, show decide ((0 : Int) < 0) = false from rfl, ifF]
  have e1 : (x :: r)[0]? = some x := rfl
  have := avz (x :: r) hn hl r.length 1 x (by simp; omega) (by omega) (by omega)
  rw [show ((0 : Int)) = ((0 : Nat) : Int) from rfl, an (gn e1), pw, cf, gW (by simp; omega), guT, aj (by omega), List.nil_append, this, Lib.join_cons]
  rfl
structure abo (h : RH) : Prop where
 l : h.p.length ≤ 2000
 n : ∀ s ∈ h.p, s.length ≤ 16
 v : szV h.v ≤ 1024
theorem bgw {q : List Bs} {n : Bs} (hq : ∀ s ∈ q, s.length ≤ 16) (hn : n.length ≤ 16) : ∀ s ∈ q ++ [n], s.length ≤ 16 := fun s hs => by
 rcases List.mem_append.1 hs with hs | hs
 ·exact hq s hs
 ·rw [List.mem_singleton.1 hs]; exact hn
mutual
theorem bc4 : ∀ (t : Tm) (q : List Bs), (∀ s ∈ q, s.length ≤ 16) → nmT t = true → q.length + szT t ≤ 2000 → szT t ≤ 1024 → ∀ h ∈ ads q t, abo h
 | .mk _ _ _ _ _ _ _ fs, q, hq, hn, hl, hz, h, hm => by
  rw [szT] at hl hz
  rw [nmT] at hn
  rw [ads] at hm
  exact ayl fs q hq hn (by omega) (by omega) h hm
theorem ayl : ∀ (fs : List Lat.Fd) (q : List Bs), (∀ s ∈ q, s.length ≤ 16) → nmF fs = true → q.length + szF fs ≤ 2000 → szF fs ≤ 1024 → ∀ h ∈ kc q fs, abo h
 | [], q, hq, hn, hl, hz, h, hm => by rw [kc] at hm; cases hm
 | .mk n v :: r, q, hq, hn, hl, hz, h, hm => by
  rw [szF] at hl hz
  rw [nmF, Bool.and_eq_true, Bool.and_eq_true] at hn
  have hn16 := of_decide_eq_true hn.1.1
  have hq' := bgw hq hn16
  rw [kc] at hm
  rcases List.mem_append.1 hm with hm | hm
  ·rcases List.mem_cons.1 hm with rfl | hm
   ·exact ⟨by rw [List.length_append]; simp; omega, hq', by show szV v ≤ 1024; omega⟩
   ·exact ao0 v (q ++ [n]) hq' hn.1.2 (by rw [List.length_append]; simp; omega) (by omega) h hm
  ·exact ayl r q hq hn.2 (by omega) (by omega) h hm
theorem ao0 : ∀ (v : List Tm) (q : List Bs), (∀ s ∈ q, s.length ≤ 16) → nmL v = true → q.length + szV v ≤ 2000 → szV v ≤ 1024 → ∀ h ∈ il q v, abo h
 | [], q, hq, hn, hl, hz, h, hm => by rw [il] at hm; cases hm
 | t :: r, q, hq, hn, hl, hz, h, hm => by
  rw [szV] at hl hz
  rw [nmL, Bool.and_eq_true] at hn
  rw [il] at hm
  rcases List.mem_append.1 hm with hm | hm
  ·exact bc4 t q hq hn.1 (by omega) (by omega) h hm
  ·exact ao0 r q hq hn.2 (by omega) (by omega) h hm
end
structure ao1 (t : Th) : Prop where
 v : szV t.v ≤ 1024
 m : nmL t.v = true
 n : t.n.length ≤ 16
theorem a5f {t : Th} (h : ao1 t) : ∀ x ∈ qb [t.n] t.v, abo x := fun x hx => by
 have hv := h.v
 have hq : ∀ s ∈ [t.n], s.length ≤ 16 := fun s hs => by rw [List.mem_singleton.1 hs]; exact h.n
 rcases List.mem_cons.1 hx with rfl | hx
 ·exact ⟨by show 1 ≤ 2000; decide, hq, hv⟩
 ·exact ao0 t.v [t.n] hq h.m (by simp; omega) hv x hx
theorem bgx {l : List Bs} {deep : Bool} {ts : List Th} (h : ∀ t ∈ ts, ao1 t) : ∀ x ∈ rfs l deep ts, abo x := fun x hx => by
 unfold rfs at hx
 obtain ⟨t, ht, hx⟩ := List.mem_flatMap.1 hx
 exact a5f (h t ht) x (List.mem_filter.1 hx).1
theorem aym {l : List Bs} {deep : Bool} {t : Th} (h : ao1 t) : (rf1 l deep t).length ≤ 1025 := by
 have h1 := ak8 [t.n] t.v
 have h2 := h.v
 have h3 := List.length_filter_le (fun x : RH => mt l deep x.p) (qb [t.n] t.v)
 unfold rf1; omega
theorem ayn {l : List Bs} {deep : Bool} : ∀ {ts : List Th}, (∀ t ∈ ts, ao1 t) → (rfs l deep ts).length ≤ 1025 * ts.length
 | [], h => by simp [rfs]
 | t :: r, h => by
  have h1 := ayn (l := l) (deep := deep) (ts := r) fun t ht => h t (List.mem_cons_of_mem _ ht)
  have h2 := aym (l := l) (deep := deep) (h t (List.mem_cons_self ..))
  have e : rfs l deep (t :: r) = rf1 l deep t ++ rfs l deep r := by rw [rfs, List.flatMap_cons]; rfl
  rw [e, List.length_append, List.length_cons]; omega
theorem aij (ts : List Th) {P : List Bs} (hP : P ≠ []) (hPl : P.length ≤ 1048577) (hok : (iw P).1.all kz = true) (n : Nat) (X : List RH) (hX : ∀ h ∈ X, abo h) (hXl : X.length ≤ 1048576) : ∀ (d i : Nat) (O : List RH), i + d = X.length → O.length + d ≤ 536870912 →
  dn.l1 (.sl 3 (cy ts)) (.sl 1 (ar P)) (.own 2 (fk O)) (.int .i64 (n : Int)) (.sl 2 (fk X)) (.int .i64 (i : Int)) = dn.l0 (.sl 3 (cy ts)) (.sl 1 (ar P)) (.own 2 (fk (O ++ (X.drop i).filter fun h => mt (iw P).1 (iw P).2 h.p))) (.int .i64 (w64 ((n : Int) + 1)))
 | 0, i, O, h, hO => by rw [dn.en, oq, decide_eq_false (by omega), ifF, bc (by omega)]; simp
 | d + 1, i, O, h, hO => by
  have h1 : i < X.length := by omega
  have e1 : X[i]? = some X[i] := List.getElem?_eq_getElem h1
  have hx := hX _ (List.getElem_mem h1)
  have hm : zh (.sl 1 (ar P)) (.sl 1 (ar X[i].p)) = _ := ala (a0q P X[i].p hP hPl (by have := hx.l; omega) hok)
  rw [dn.en, oq, decide_eq_true (by omega), ifT, an (adr e1), rh0, qn, hm, ab, bq, au h1, List.filter_cons, aj (by omega)]
  cases hb : mt (iw P).1 (iw P).2 X[i].p with
  | true =>
   rw [ifT, an (adr e1), gOK (by rw [oq]; simp; omega), guT, show fk O ++ [ah8 X[i]] = fk (O ++ [X[i]]) from by simp [fk], aij ts hP hPl hok n X hX hXl d (i + 1) (O ++ [X[i]]) (by omega) (by simp; omega), if_pos rfl, List.append_assoc]; rfl
  | false => rw [ifF, aij ts hP hPl hok n X hX hXl d (i + 1) O (by omega) (by omega), if_neg (by simp)]
theorem aq0 (ts : List Th) (hts : ∀ t ∈ ts, ao1 t) (hl : ts.length ≤ 256) {P : List Bs} (hP : P ≠ []) (hPl : P.length ≤ 1048577) (hok : (iw P).1.all kz = true) : ∀ (d i : Nat) (O : List RH), i + d = ts.length → O.length + 1025 * d ≤ 500000 →
  dn.l0 (.sl 3 (cy ts)) (.sl 1 (ar P)) (.own 2 (fk O)) (.int .i64 (i : Int)) = some (.tup [.own 2 (fk (O ++ rfs (iw P).1 (iw P).2 (ts.drop i))), .int .i64 0])
 | 0, i, O, h, hO => by rw [dn.ai, jm, decide_eq_false (by omega), ifF, bc (by omega)]; simp [rfs]
 | d + 1, i, O, h, hO => by
  have h1 : i < ts.length := by omega
  have e1 : ts[i]? = some ts[i] := List.getElem?_eq_getElem h1
  have ht := hts _ (List.getElem_mem h1)
  have hv := ht.v
  have hp : ag9 (.sl 1 (ar [ts[i].n])) (.agg 1 [.sl 8 (al ts[i].v)]) = _ := bc2 (p := [ts[i].n]) (v := ts[i].v) ⟨Nat.zero_lt_one, by simp; omega⟩
  have hlen := ak8 [ts[i].n] ts[i].v
  have hr := aym (l := (iw P).1) (deep := (iw P).2) ht
  rw [dn.ai, jm, decide_eq_true (by omega), ifT, an (fy e1), th0, cf, an (fy e1), th1, show [[AV.str ts[i].n]] = ar [ts[i].n] from rfl, hp, ab, avy]
  have hl1 := aij ts hP hPl hok i (qb [ts[i].n] ts[i].v) (a5f ht) (by omega) _ 0 O (Nat.zero_add _) (by omega)
  rw [e00, List.drop_zero] at hl1
  rw [hl1, aj (by omega), aq0 ts hts hl hP hPl hok d (i + 1) _ (by omega) (by rw [List.length_append]; unfold rf1 at hr; omega), au h1, List.append_assoc]
  unfold rfs
  rw [List.flatMap_cons]; rfl
theorem a5g (p : Bs) (v : List Tm) (h : RH) (hv : szV v ≤ 1073741824) (ho : abo h) : yo (.str p) (.agg 1 [.sl 8 (al v)]) (.agg 2 (ah8 h)) = some (.bool (decide (p = Lib.join h.p [46]) && decide (mv v h.v = 0))) := by
 rw [yo.ae, rh0, qn, aqz ho.n (by have := ho.l; omega), ab, cf, rh1]
 simp only [frz, a7i hv, ab, bq, kq]
theorem av0 (X : List RH) (hX : ∀ h ∈ X, abo h) (hl : X.length ≤ 50000) : ∀ (d i : Nat) (acc : Bs), i + d = X.length → acc.length + 11240010 * d ≤ 600000000000 →
  lj.l0 (.sl 2 (fk X)) (.str acc) (.int .i64 (i : Int)) = some (.tup [.str (xy acc (lnX um ((X.drop i).map jv))).1, .int .i64 (xy acc (lnX um ((X.drop i).map jv))).2])
 | 0, i, acc, hi, ha => by
  rw [lj.ai, oq, decide_eq_false (by omega), ifF, bc (by omega), List.map_nil, lnX]
  unfold xy
  simp
 | d + 1, i, acc, hi, ha => by
  have h1 : i < X.length := by omega
  have e1 : X[i]? = some X[i] := List.getElem?_eq_getElem h1
  have hx := hX _ (List.getElem_mem h1)
  have hv := hx.v
  have hva := aok X[i].v
  have hjl : (Lib.join X[i].p [46]).length ≤ 34000 := by
   have h16 := ajb hx.n
   have := hx.l
   cases hc : X[i].p with
   | nil => simp [Lib.join_nil]
   | cons y r =>
    rw [hc] at h16 this
    rw [Lib.join_length]
    rw [List.length_cons] at h16 this
    show 1 * r.length + _ ≤ _
    omega
  have hxx : um (jv X[i]) = if (vaX X[i].v).2 = 0 then (Lib.join X[i].p [46] ++ 58 :: 32 :: ((vaX X[i].v).1 ++ [10]), 0) else ([], (vaX X[i].v).2) := rfl
  rw [lj.ai, oq, decide_eq_true (by omega), ifT, an (adr e1), rh1, azx X[i].v (by omega), ab, o6, cf, bf, au h1, List.map_cons]
  by_cases he : (vaX X[i].v).2 = 0
  ·have hx0 : (um (jv X[i])).2 = 0 := by rw [hxx, if_pos he]
   have hx1 : (um (jv X[i])).1 = Lib.join X[i].p [46] ++ 58 :: 32 :: ((vaX X[i].v).1 ++ [10]) := by rw [hxx, if_pos he]
   rw [decide_eq_true he, Bool.not_true, ifF, an (adr e1), rh0, qn, aqz hx.n (by have := hx.l; omega), ab, cf, gW (by omega), guT, gW (by simp; omega), guT, gW (by simp; omega), guT, gW (by simp; omega), guT, aj (by omega),
    av0 X hX hl d (i + 1) _ (by omega) (by simp; omega), aqh _ _ _ _ hx0, hx1]
   simp [List.append_assoc]
  ·have hx0 : ¬ (um (jv X[i])).2 = 0 := by rw [hxx, if_neg he]; exact he
   rw [decide_eq_false he, Bool.not_false, ifT, aup _ _ _ _ hx0, hxx, if_neg he]
theorem a5h (X : List RH) (hX : ∀ h ∈ X, abo h) (hl : X.length ≤ 50000) : lj (.sl 2 (fk X)) = some (.tup [.str (txH (X.map jv)).1, .int .i64 (txH (X.map jv)).2]) := by
 have h := av0 X hX (by omega) X.length 0 [] (by omega) (by simp; omega)
 rw [List.drop_zero, auq _ (ax7 um (X.map jv)), e00] at h
 rw [lj.ae]; exact h
end Go.Proofs.YtmdimhcjogjcgaaGreatDoor.Xp
namespace Go.Proofs.YtmdimhcjogjcgaaGreatDoor.Lat
theorem a5i (a : Int) : nv a a = 0 := aln.2 rfl
theorem aq1 (a : Bs) : ru a a = 0 := ahi.2 rfl
mutual
theorem a5j : ∀ t : Tm, nr t t = 0
 | .mk k lo hi s a m o fs => by rw [an5]; simp only [a5i, aq1, Int.sub_self, aq2 fs, Tm.fs, aa0, and_self]
theorem aq2 : ∀ fs : List Fd, ry fs fs = 0
 | [] => rfl
 | .mk n v :: r => by rw [ry, aa0, aa0]; exact ⟨⟨aq1 n, aik v⟩, aq2 r⟩
theorem aik : ∀ v : List Tm, mv v v = 0
 | [] => rfl
 | t :: r => by rw [mv, aa0]; exact ⟨a5j t, aik r⟩
end
end Go.Proofs.YtmdimhcjogjcgaaGreatDoor.Lat
namespace Go.Proofs.YtmdimhcjogjcgaaGreatDoor.Xp
open Go.Proofs.YtmdimhcjogjcgaaGreatDoor.Abs Go.Proofs.YtmdimhcjogjcgaaGreatDoor.Lat Go.Proofs.YtmdimhcjogjcgaaGreatDoor.Gr
open Go.Proofs.YtmdimhcjogjcgaaGreatDoor.Qw (eu np yf)
def rfV (ts : List Th) (s : Bs) : List RH × Int := if jf s = true then (if p9 ts = true then (rfs (iw (eu s)).1 (iw (eu s)).2 ts, 0) else ([], 1)) else ([], 2)
theorem anb {ts : List Th} (h : p9 ts = true) : ∀ t ∈ ts, ao1 t := fun t ht => ⟨(ag1 h t ht).1, (ag1 h t ht).2.1, (ag1 h t ht).2.2⟩
theorem a5k {s : Bs} (h : jf s = true) : (iw (eu s)).1.all kz = true := by
 unfold jf at h
 simp only [Bool.and_eq_true] at h
 exact h.2.2
theorem a5l (ts : List Th) (s : Bs) (hl : ts.length ≤ 256) (hs : ∀ t ∈ ts, adh t) (hn : s.length ≤ 1048576) : dn (.sl 3 (cy ts)) (.str s) = some (.tup [.own 2 (fk (rfV ts s).1), .int .i64 (rfV ts s).2]) := by
 have h1 : uc (.str s) = some (.bool (jf s)) := afo (ana s hn)
 have h2 : abl (.sl 3 (cy ts)) = some (.bool (p9 ts)) := aoy (azw ts hl hs)
 have h3 : abm (.str s) = some (.own 1 (ar (eu s))) := aoz (am9 s hn)
 rw [dn.ae, h1, ab, bq]
 unfold rfV
 cases hp : jf s with
 | false => rfl
 | true =>
  rw [Bool.not_true, ifF, h2, ab, bq, if_pos rfl]
  cases hr : p9 ts with
  | false => rfl
  | true =>
   have hc := yf s
   rw [Bool.not_true, ifF, h3, ab, a3b, if_pos rfl]
   have := aq0 ts (anb hr) hl (np s) (by omega) (a5k hp) ts.length 0 [] (by omega) (by simp; omega)
   rw [List.drop_zero, List.nil_append, e00] at this
   exact this
theorem bgy (ts : List Th) (s : Bs) : (fdV ts s).1 = (rfV ts s).1.map jv ∧ (fdV ts s).2 = (rfV ts s).2 := by
 unfold fdV rfV
 cases jf s with
 | false => exact ⟨rfl, rfl⟩
 | true =>
  cases p9 ts with
  | false => exact ⟨rfl, rfl⟩
  | true => exact ⟨a5e _ _ ayh ts, rfl⟩
theorem bgz (ts : List Th) (s : Bs) (hl : ts.length ≤ 12) : (∀ x ∈ (rfV ts s).1, abo x) ∧ (rfV ts s).1.length ≤ 50000 := by
 unfold rfV
 cases jf s with
 | false => exact ⟨fun x hx => by simp at hx, by simp⟩
 | true =>
  cases hr : p9 ts with
  | false => exact ⟨fun x hx => by simp at hx, by simp⟩
  | true =>
   have h := anb hr
   have := ayn (l := (iw (eu s)).1) (deep := (iw (eu s)).2) h
   exact ⟨bgx h, by show (rfs _ _ ts).length ≤ _; omega⟩
theorem bc5 {X : List RH} (h : ∀ x ∈ X, abo x) (hl : X.length ≤ 50000) : ajj (X.map jv) := ⟨by rw [List.length_map]; omega, fun y hy => by
 obtain ⟨x, hx, rfl⟩ := List.mem_map.1 hy
 have ho := h x hx
 have hv := ho.v
 have h16 := ajb ho.n
 have hl2 := ho.l
 refine ⟨?_, by show szV x.v ≤ _; omega⟩
 show (Lib.join x.p [46]).length ≤ _
 cases hc : x.p with
 | nil => simp [Lib.join_nil]
 | cons y r =>
  rw [hc] at h16 hl2
  rw [Lib.join_length]
  rw [List.length_cons] at h16 hl2
  show 1 * r.length + _ ≤ _
  omega⟩
def nmV (n : Int) : List Tm := [.mk 2 n n [] false false false []]
def bxV (fs : List Lat.Fd) : List Tm := [.mk 4 0 0 [] false false false fs]
def awQ : Th := ⟨[119, 101, 98], bxV [.mk [105, 100] (nmV 1), .mk [110, 101, 116] (bxV [.mk [110] (nmV 4)])], []⟩
theorem a9p : og (tds [awQ]) = false := by
 cases h : og (tds [awQ]) with
 | false => rfl
 | true =>
  obtain ⟨S, ⟨k, hk⟩, hS⟩ := amq.1 h
  obtain ⟨h1, ds, h2, d, h3, h4, _⟩ := hS k hk
  simp [tds, awQ] at h2
  obtain ⟨rfl, rfl⟩ := h2
  simp at h3
theorem bg0 : ([awQ].all gR && ri (gg [awQ])) = true := by decide +kernel
theorem aq3 : p9 [awQ] = true := by
 unfold p9
 rw [bg0, a9p]; rfl
theorem a5m : ∀ t ∈ [awQ], adh t := fun t ht => by
 rw [List.mem_singleton] at ht; subst ht
 exact ⟨by decide, by decide, by decide⟩
theorem bi8 : fdV [awQ] [119, 101, 98, 46, 42] = ([⟨[119, 101, 98, 46, 105, 100], nmV 1⟩, ⟨[119, 101, 98, 46, 110, 101, 116], bxV [.mk [110] (nmV 4)]⟩], 0) := by
 unfold fdV
 rw [if_pos (by decide +kernel), if_pos aq3]; rfl
theorem bi9 : fdV [awQ] [119, 101, 98, 46, 42, 42] = ([⟨[119, 101, 98], awQ.v⟩, ⟨[119, 101, 98, 46, 105, 100], nmV 1⟩, ⟨[119, 101, 98, 46, 110, 101, 116], bxV [.mk [110] (nmV 4)]⟩, ⟨[119, 101, 98, 46, 110, 101, 116, 46, 110], nmV 4⟩], 0) := by
 unfold fdV
 rw [if_pos (by decide +kernel), if_pos aq3]; rfl
theorem aq4 : qe = some (.bool true) := by
 have h1 : ot (.sl 3 (cy [awQ])) (.str [119, 101, 98, 46, 42]) = _ := avs ⟨by decide, a5m⟩
 have h2 : ot (.sl 3 (cy [awQ])) (.str [119, 101, 98, 46, 42, 42]) = _ := avs ⟨by decide, a5m⟩
 rw [bi8] at h1
 rw [bi9] at h2
 have n1 : sr (.int .i64 1) = _ := aeu (vg.ae 1)
 have n4 : sr (.int .i64 4) = _ := aeu (vg.ae 4)
 have b1 : ∀ l, aaq (.sl 2 l) = _ := fun l => avu (aeb.ae l)
 rw [qe.ae, n1, ab, arx, n4, ab, arx, b1, ab, arx, b1, ab, arx]
 refine (congrArg (fun x => Option.bind x _) (show ot _ _ = _ from h1)).trans ?_
 simp only [ab, o6, avy, bf]
 refine (congrArg (fun x => Option.bind x _) (show ot _ _ = _ from h2)).trans ?_
 rfl
theorem ph0 {α : Type} (h : Hit) (k : AV → Option α) : aa (abh h) 0 k = k (.str h.p) := rfl
theorem ph1 {α : Type} (h : Hit) (k : AV → Option α) : aa (abh h) 1 k = k (.sl 8 (al h.v)) := rfl
theorem a5n (X : List RH) (hX : ∀ x ∈ X, abo x) (hl : X.length ≤ 50000) : ∀ (d i : Nat), i + d = X.length → fe.l0 (.sl 2 (mj (X.map jv))) (.sl 2 (fk X)) (.int .i64 (i : Int)) = some (.bool true)
 | 0, i, h => by
  have h1 : aif (.sl 2 (mj (X.map jv))) = _ := bgq (bc5 hX hl)
  have h2 : adx (.sl 2 (fk X)) = _ := arh (a5h X hX hl)
  rw [fe.ai, oq, decide_eq_false (by omega), ifF, h1, ab, o6, cf, bf, h2, ab, o6, cf, bf, aq4, ab, bq]
  simp only [decide_true]
  rfl
 | d + 1, i, h => by
  have h1 : i < X.length := by omega
  have e1 : X[i]? = some X[i] := List.getElem?_eq_getElem h1
  have hx := hX _ (List.getElem_mem h1)
  have hv := hx.v
  have e2 : (X.map jv)[i]? = some (jv X[i]) := by rw [List.getElem?_map, e1]; rfl
  have hs : adw (.str (jv X[i]).p) (.agg 1 [.sl 8 (al (jv X[i]).v)]) (.agg 2 (ah8 X[i])) = some (.bool true) := by
   have := arf (a5g (jv X[i]).p (jv X[i]).v X[i] (by show szV X[i].v ≤ _; omega) hx)
   have e : decide ((jv X[i]).p = Lib.join X[i].p [46]) = true := decide_eq_true rfl
   have f : decide (mv (jv X[i]).v X[i].v = 0) = true := decide_eq_true (aik _)
   rw [e, f] at this
   exact this
  rw [fe.ai, oq, decide_eq_true (by omega), ifT, an (avf e2), ph0, cf, an (avf e2), ph1, an (adr e1), hs, ab, bq, Bool.not_true, ifF, aj (by omega)]
  exact a5n X hX hl d (i + 1) (by omega)
theorem a5o (ts : List Th) (s : Bs) : ah Q 7 [.sl 3 (cy ts), .str s] = some (.bool true) := by
 show fe (.sl 3 (cy ts)) (.str s) = some (.bool true)
 obtain ⟨x, hx, hax⟩ := bcc ts
 have hx' : ae2 (.sl 3 (cy ts)) = some (.bool x) := avt hx
 rw [fe.ae, hx', ab, bq, azf, ab]
 by_cases hc : (!x || decide ((300 : Int) < (s.length : Int))) = true
 ·rw [hc, ifT, aq4]; rfl
 ·have hcf : (!x || decide ((300 : Int) < (s.length : Int))) = false := by simpa using hc
  rw [hcf, ifF]
  simp only [Bool.or_eq_false_iff, Bool.not_eq_false', decide_eq_false_iff_not] at hcf
  obtain ⟨q1, q2⟩ := hax hcf.1
  have hn : s.length ≤ 300 := by omega
  obtain ⟨f1, f2⟩ := bgy ts s
  obtain ⟨r1, r2⟩ := bgz ts s q1
  have e1 : ot (.sl 3 (cy ts)) (.str s) = _ := avs ⟨by show ts.length ≤ 256; omega, q2⟩
  have e2 := a5l ts s (by omega) q2 (by omega)
  have e3 : ag8 (.str s) = some (.bool (jf s)) := bgp (a4z s)
  have e4 : uc (.str s) = some (.bool (jf s)) := afo (ana s (by omega))
  rw [e1, ab, o6, avy, bf, e2, ab, o6, bgv, bf, e3, ab, bq, e4, ab, bq, f1, f2, aqp, oq, List.length_map]
  have hd1 : decide (((rfV ts s).1.length : Int) = ((rfV ts s).1.length : Int)) = true := decide_eq_true rfl
  have hd2 : decide ((rfV ts s).2 = (rfV ts s).2) = true := decide_eq_true rfl
  rw [hd1, hd2]
  have hb : (jf s == jf s) = true := beq_self_eq_true _
  rw [hb]
  have := a5n _ r1 r2 _ 0 (Nat.zero_add _)
  rw [e00] at this
  exact this
end Go.Proofs.YtmdimhcjogjcgaaGreatDoor.Xp
