/- The law QueryMore behind its store is true, plainly. -/
import Derived.Test.YtmdimhcjogjcgaaGreatDoorGbc
import Derived.Test.YtmdimhcjogjcgaaGreatDoorGbd
import Derived.Test.YtmdimhcjogjcgaaGreatDoorGax
import Derived.Test.YtmdimhcjogjcgaaGreatDoorGba
import Derived.Test.YtmdimhcjogjcgaaGreatDoorGas
import Derived.DataReads
import GoSem.ClaimChange
set_option linter.all false
set_option maxRecDepth 100000
set_option maxHeartbeats 4000000
noncomputable section
namespace Go.Proofs.YtmdimhcjogjcgaaGreatDoor.Xp
open Go.Proofs.YtmdimhcjogjcgaaGreatDoor.Abs Go.Proofs.YtmdimhcjogjcgaaGreatDoor.Lat Go.Proofs.YtmdimhcjogjcgaaGreatDoor.Gr
open Go.Proofs.YtmdimhcjogjcgaaGreatDoor.Qw (al fj mf wz qv pre pre_nil ahj wy)
theorem amx : ∀ (s : Bs), ∀ x ∈ al s, (46 : UInt8) ∉ x
 | [], x, h => by rw [al, List.mem_singleton] at h; subst h; simp
 | c :: s, x, h => by
  rw [al] at h
  split at h
  ·rcases List.mem_cons.1 h with rfl | h
   ·simp
   ·exact amx s x h
  ·rename_i hc
   have ih := amx s
   cases hd : al s with
   | nil => exact absurd hd (fj s)
   | cons a r =>
    rw [hd] at h ih
    have h : x ∈ ([c] ++ a) :: r := h
    rcases List.mem_cons.1 h with rfl | h
    ·intro hm
     rcases List.mem_append.1 hm with hm | hm
     ·exact hc (List.mem_singleton.1 hm).symm
     ·exact ih a (List.mem_cons_self ..) hm
    ·exact ih x (List.mem_cons_of_mem _ h)
theorem acn : ∀ x : Bs, (46 : UInt8) ∉ x → al x = [x]
 | [], _ => rfl
 | c :: x, h => by
  rw [al, if_neg (fun e => h (by rw [e]; exact List.mem_cons_self ..)), acn x (fun e => h (List.mem_cons_of_mem _ e))]; rfl
theorem aou : ∀ (x r : Bs), (46 : UInt8) ∉ x → al (x ++ 46 :: r) = x :: al r
 | [], r, _ => by rw [List.nil_append, al, if_pos rfl]
 | c :: x, r, h => by
  rw [List.cons_append, al, if_neg (fun e => h (by rw [e]; exact List.mem_cons_self ..)), aou x r (fun e => h (List.mem_cons_of_mem _ e))]; rfl
theorem amy : ∀ L : List Bs, L ≠ [] → (∀ x ∈ L, (46 : UInt8) ∉ x) → al (Lib.join L [46]) = L
 | [x], _, h => by rw [Lib.join_one]; exact acn x (h x (List.mem_cons_self ..))
 | x :: y :: r, _, h => by
  rw [wy, List.append_assoc, List.singleton_append, aou x _ (h x (List.mem_cons_self ..)), amy (y :: r) (by simp) fun z hz => h z (List.mem_cons_of_mem _ hz)]
theorem a3q {α : Type} (h : Hit) (k : AV → Option α) : ab (zg h) 0 k = k (.str h.p) := rfl
theorem a3r {α : Type} (h : Hit) (k : AV → Option α) : ab (zg h) 1 k = k (.sl 8 (ak h.v)) := rfl
theorem adg (A B : List Hit) (hB : ∀ h ∈ B, szV h.v ≤ 1073741824) (hl : A.length ≤ 1000000 ∧ B.length ≤ 1000000) : ∀ (d i n : Nat), i + d = B.length → n ≤ A.length → (A.drop n).Sublist (B.drop i) → an.l2 (.sl 2 (kh A)) (.sl 2 (kh B)) (.int .i64 (n : Int)) (.int .i64 (i : Int)) = some (.bool true)
 | 0, i, n, h, hn, hs => by
  rw [bw (l := B) (by omega), List.sublist_nil, List.drop_eq_nil_iff] at hs
  rw [an.ac7, mj, mj, decide_eq_false (by omega), ifF, ad, ifF, vc, ad, en, ifT, ad, decide_eq_true (by omega)]
 | d + 1, i, n, h, hn, hs => by
  have h1 : i < B.length := by omega
  have e1 : B[i]? = some B[i] := List.getElem?_eq_getElem h1
  by_cases h2 : n < A.length
  ·have e2 : A[n]? = some A[n] := List.getElem?_eq_getElem h2
   have hsz := hB _ (List.getElem_mem h1)
   rw [an.ac7, mj, mj, decide_eq_true (by omega), ifT, decide_eq_true (by omega), ad, ifT, ay (aa7 e1), a3q, gx, ay (aa7 e2), a3q, gx, bf (by omega), bf (by omega)]
   rw [bc h1, bc h2] at hs
   by_cases hp : B[i].p = A[n].p
   ·have hv : x7 (.agg 1 [.sl 8 (ak B[i].v)]) (.agg 1 [.sl 8 (ak A[n].v)]) = some (.bool (decide (iy B[i].v A[n].v = 0))) := ajd (au7 hsz)
    rw [decide_eq_true hp, ifT, ay (aa7 e1), a3r, ay (aa7 e2), a3r, hv, ad, en, ad]
    by_cases hc : iy B[i].v A[n].v = 0
    ·rw [decide_eq_true hc, ifT]
     refine adg A B hB hl d (i + 1) (n + 1) (by omega) (by omega) ?_
     generalize hx : A[n] = x at hs
     generalize hy : B[i] = y at hs
     cases hs with
     | cons _ hs => exact (List.sublist_cons_self _ _).trans hs
     | cons_cons _ hs => exact hs
    ·rw [decide_eq_false hc, ifF]
     refine adg A B hB hl d (i + 1) n (by omega) hn ?_
     rw [bc h2]
     generalize hx : A[n] = x at hs hc hp ⊢
     generalize hy : B[i] = y at hs hc hp ⊢
     cases hs with
     | cons _ hs => exact hs
     | cons_cons _ hs => exact absurd (acm _) hc
   ·rw [decide_eq_false hp, ifF, ad, ifF]
    refine adg A B hB hl d (i + 1) n (by omega) hn ?_
    rw [bc h2]
    generalize hx : A[n] = x at hs hp ⊢
    generalize hy : B[i] = y at hs hp ⊢
    cases hs with
    | cons _ hs => exact hs
    | cons_cons _ hs => exact absurd rfl hp
  ·rw [an.ac7, mj, mj, decide_eq_true (by omega), ifT, decide_eq_false (by omega), ad, ifF, vc, ad, en, ifT, ad, decide_eq_true (by omega)]
theorem aov (P : List Bs) (A B : List Hit) (hP : P.length ≤ 1000000) (hA : A.length ≤ 1000000) : ∀ (d i : Nat) (b : Bool), i + d = P.length → (b = true → (∀ x ∈ P.drop i, x ≠ [42] ∧ x ≠ [42, 42]) → A.length ≤ 1) →
  an.l1 (.sl 1 (br P)) (.sl 2 (kh A)) (.sl 2 (kh B)) (.bool b) (.int .i64 (i : Int)) = an.l2 (.sl 2 (kh A)) (.sl 2 (kh B)) (.int .i64 0) (.int .i64 0)
 | 0, i, b, h, hb => by
  rw [an.acf, df, decide_eq_false (by omega), ifF, mj]
  cases b with
  | false => rw [ifF, ad, ifF]
  | true =>
   have := hb rfl fun x hx => by rw [bw (by omega)] at hx; cases hx
   rw [ifT, ad, decide_eq_false (by omega), ifF]
 | d + 1, i, b, h, hb => by
  have h1 : i < P.length := by omega
  have e1 : P[i]? = some P[i] := List.getElem?_eq_getElem h1
  have ih := fun b' => aov P A B hP hA d (i + 1) b' (by omega)
  rw [bc h1] at hb
  rw [an.acf, df, decide_eq_true (by omega), ifT, bf (by omega)]
  simp only [ay (j4 e1), aav, gx]
  cases b with
  | false => rw [ifF, ad, ifF, ad]; exact ih false fun e => by cases e
  | true =>
   rw [ifT, ad]
   by_cases h42 : P[i] = [42]
   ·rw [decide_eq_true h42, Bool.not_true, ifF, ad]; exact ih false fun e => by cases e
   ·rw [decide_eq_false h42, Bool.not_false, ifT, ad]
    by_cases h4 : P[i] = [42, 42]
    ·rw [decide_eq_true h4, Bool.not_true]; exact ih false fun e => by cases e
    ·rw [decide_eq_false h4, Bool.not_false]
     refine ih true fun _ hx => hb rfl fun x hm => ?_
     rcases List.mem_cons.1 hm with rfl | hm
     ·exact ⟨h42, h4⟩
     ·exact hx x hm
theorem ya {s : Bs} (h : fk s = true) : (al s).length ≤ 16 ∧ (∀ x ∈ al s, x.length ≤ 16) ∧ (ef (al s)).1.all il = true := by
 have h' := h
 unfold fk at h'
 simp only [Bool.and_eq_true, decide_eq_true_eq] at h'
 exact ⟨h'.2.1, ahp 0 _ (by rw [atc _ (fj s)]; exact h'.2.2), h'.2.2⟩
theorem awv {s : Bs} {k : Nat} (h : fk s = true) (hk : k < (al s).length) : al (Lib.join (cw (al s) k) [46]) = cw (al s) k ∧ fk (Lib.join (cw (al s) k) [46]) = true ∧ ((∀ x ∈ cw (al s) k, x.length ≤ 16) ∧ (cw (al s) k).length = (al s).length) := by
 obtain ⟨h1, h2, h3⟩ := ya h
 have hlen : (cw (al s) k).length = (al s).length := by unfold cw; split <;> simp
 have h16 : ∀ x ∈ cw (al s) k, x.length ≤ 16 := fun x hx => by
  rcases ai4 hx with rfl | hx
  ·decide
  ·exact h2 x hx
 have hne : cw (al s) k ≠ [] := fun e => by rw [e] at hlen; simp at hlen; omega
 have hc : al (Lib.join (cw (al s) k) [46]) = cw (al s) k := amy _ hne fun x hx => by
  rcases ai4 hx with rfl | hx
  ·decide
  ·exact amx s x hx
 refine ⟨hc, ?_, h16, hlen⟩
 unfold fk
 rw [hc, hlen, decide_eq_true h1, Bool.true_and]
 have ha : (ef (cw (al s) k)).1.all il = true := by
  obtain ⟨j, ⟨e, _⟩ | e⟩ := af5 (P := al s) hk
  ·rw [e]; exact azr h3 j
  ·rw [e]; exact h3
 rw [ha, Bool.and_true, decide_eq_true_eq]
 have h3' := ahh h16
 cases hL : cw (al s) k with
 | nil => exact absurd hL hne
 | cons x r =>
  rw [hL] at h3' hlen
  rw [Lib.join_length]
  rw [List.length_cons] at hlen h3'
  show 1 * r.length + _ ≤ 272
  omega
theorem axf {ts : List Th} {s : Bs} : (fdV ts s).1 = (rfV ts s).1.map su ∧ (fdV ts s).2 = (rfV ts s).2 := a3n ts s
theorem ahu (ts : List Th) (s : Bs) (k : Nat) (hl : ts.length ≤ 12) (hs : ∀ t ∈ ts, zf t) (h : fk s = true) (hk : k < (al s).length) :
  an.j0 (.sl 3 (cf ts)) (.str s) (.sl 1 (br (al s))) (.sl 1 (br (cw (al s) k))) = some (.bool true) := by
 obtain ⟨hc, hp, h16, hlen⟩ := awv h hk
 obtain ⟨h1, h2, h3⟩ := ya h
 have hF : ∀ u, jb (.sl 3 (cf ts)) (.str u) = some (.tup [.sl 2 (kh (fdV ts u).1), .int .i64 (fdV ts u).2]) := fun u => aml ⟨by show ts.length ≤ 256; omega, hs⟩
 have hJ : x8 (.sl 1 (br (cw (al s) k))) = some (.str (Lib.join (cw (al s) k) [46])) := aje (atf h16 (by omega))
 have fA := @axf ts s
 have fB := @axf ts (Lib.join (cw (al s) k) [46])
 obtain ⟨a1, a2⟩ := ati ts s hl
 obtain ⟨b1, b2⟩ := ati ts (Lib.join (cw (al s) k) [46]) hl
 have he : (fdV ts s).2 = (fdV ts (Lib.join (cw (al s) k) [46])).2 := by
  rw [fA.2, fB.2]; unfold rfV; rw [if_pos h, if_pos hp]; split <;> rfl
 have hsub : (fdV ts s).1.Sublist (fdV ts (Lib.join (cw (al s) k) [46])).1 := by
  rw [fA.1, fB.1]
  refine List.Sublist.map _ ?_
  unfold rfV
  rw [if_pos h, if_pos hp, hc]
  split
  ·exact azq hk ts
  ·exact List.Sublist.refl _
 have hone : (∀ x ∈ al s, x ≠ [42] ∧ x ≠ [42, 42]) → (fdV ts s).1.length ≤ 1 := fun hn => by
  rw [fA.1, List.length_map]
  unfold rfV
  rw [if_pos h]
  split
  ·rename_i hr
   have hm : uk (al s) = false := by
    unfold uk
    rw [Bool.and_eq_false_iff]
    right
    refine decide_eq_false fun e => ?_
    exact (hn _ (List.mem_of_getElem? e)).2 rfl
   have hcm : ef (al s) = (al s, false) := by unfold ef; rw [hm]; rfl
   rw [hcm]
   exact atl hr fun x hx => (hn x hx).1
  ·simp
 rw [an.aar, hF, ad, aqb, ams, dn, hJ, ad, gx, hF, ad, aqb, ams, dn, decide_eq_true he, Bool.not_true, ifF]
 have hBl : (fdV ts (Lib.join (cw (al s) k) [46])).1.length ≤ 50000 := by rw [fB.1, List.length_map]; exact b2
 have hAl : (fdV ts s).1.length ≤ 50000 := by rw [fA.1, List.length_map]; exact a2
 have := aov (al s) (fdV ts s).1 (fdV ts (Lib.join (cw (al s) k) [46])).1 (by omega) (by omega) _ 0 true (Nat.zero_add _) fun _ hx => hone (by rw [List.drop_zero] at hx; exact hx)
 rw [e00] at this
 rw [this]
 have := adg (fdV ts s).1 (fdV ts (Lib.join (cw (al s) k) [46])).1 (fun x hx => by
  rw [fB.1] at hx
  obtain ⟨y, hy, rfl⟩ := List.mem_map.1 hx
  have := (b1 y hy).v
  show szV y.v ≤ _; omega) ⟨by omega, by omega⟩ _ 0 0 (Nat.zero_add _) (Nat.zero_le _) (by rw [List.drop_zero, List.drop_zero]; exact hsub)
 rw [e00] at this
 exact this
end Go.Proofs.YtmdimhcjogjcgaaGreatDoor.Xp
namespace Go.Proofs.YtmdimhcjogjcgaaGreatDoor.Abs
open Go.RowKit
theorem aww {P : Program} {S : Sys} (hS : aa4 P S) {f : Nat} {fn : Func} {cr : Code} {e : Env} {r : AV} {a : Act} {w : World} {c : Cls} {R : Ending → World → Prop} (hnd : xf (fn.results.toList.map zm) = true) (hds : lk fn.ntmps cr = true)
  (h : runM S.τ (S.ann f) (ag S) (gl fn.results.toList) sy cr e (sx S.τ fn.results.toList) = some r)
  (hst : ax S.τ w.heap.size w c (aj a) e) (hdf : a.defers = []) (hsz : fn.ntmps ≤ a.tmps.size)
  (hR : ∀ v w' c', Ext w.heap.size w c w' c' → abt w.heap.size w' c' v r → R (.returned v) w') : cr.wp P (bodyPost P fn R) a w := by
 rw [pj, agl, ph] at h
 have hap := (agj S.τ (S.ann f) (gl fn.results.toList) (c := iw S) (call := ω S) (fun f l => aez S f l) cr).ap (fun _ => sx S.τ fn.results.toList) (sx S.τ fn.results.toList) (fun _ _ => Ap.const _) e
 obtain ⟨n, hn⟩ := (hap.lim r).1 h
 refine rp (wB := w) (cB := c) (B := w.heap.size) (sz := a.tmps.size) (n := fn.ntmps) hS.fol hS.tab (fun f l r h => ab8 hS n f l r h) hsz cr _ _ _ _ w hds hn ⟨c, Ext.refl .., hst, rfl, hdf⟩ fun z e a w' hK hst' => ?_
 obtain ⟨c', q1, q2, q3, q4⟩ := hst'
 have hfin : ur S.τ e fn.results.toList oneOf = some r → bodyPost P fn R .normal a w' := fun hr => by
  obtain ⟨v, p1, p2⟩ := adt hS.tab hnd q2 hr
  exact ⟨q4, v, p1, hR v w' _ (q1.trans (aa3 ..)) p2⟩
 cases z with
 | normal => exact hfin hK
 | ret => exact hfin hK
 | exit j => cases hK
end Go.Proofs.YtmdimhcjogjcgaaGreatDoor.Abs
namespace Go.Proofs.YtmdimhcjogjcgaaGreatDoor.Th
open Go.RowKit Go.Lib Go.Proofs.YtmdimhcjogjcgaaGreatDoor.Abs Go.Proofs.YtmdimhcjogjcgaaGreatDoor.Lat Go.Proofs.YtmdimhcjogjcgaaGreatDoor.Lat.Cp Go.Proofs.YtmdimhcjogjcgaaGreatDoor.Gr
open Go.Proofs.YtmdimhcjogjcgaaGreatDoor.Qw (al fj mf wz qv acg)
open Go.Proofs.YtmdimhcjogjcgaaGreatDoor.Xp (cw ahu abb wa vc ya)
structure Pm (W0 : World) (L : List (Value × AV)) (W : World) : Prop where
 bel : Below W0.heap.size W0 W
 ex : ∃ c, GOK Q.τ W c ∧ ∀ p ∈ L, Rep W c p.1 p.2
theorem Pm.below {W0 W W' : World} {L : List (Value × AV)} (h : Pm W0 L W) (hB : Below W.heap.size W W') : Pm W0 L W' := by
 obtain ⟨c, hG, hL⟩ := h.ex
 exact ⟨dp h.bel (Nat.le_refl _) hB, _, hG.ext (Cp.ig c hB), fun p hp => (hL p hp).ext (Cp.ig c hB)⟩
theorem Pm.call {W0 W : World} {L : List (Value × AV)} (h : Pm W0 L W) {f : Nat} {l : List AV} {r : AV} (hr : ag Q f l = some r) {vs : Array Value} {fn : Func} {cd : Code} (hf : Tryz.prog.funcs[f]? = some fn) (hb : fn.body = some cd) (hnm : ¬ fn.name = "runtime.NumGoroutine")
  (hsz : vs.size = l.length) (ha : ∀ c, (∀ p ∈ L, Rep W c p.1 p.2) → ∀ (i : Nat) (v : Value) (a : AV), vs[i]? = some v → l[i]? = some a → td W c v a) :
  Calls Tryz.prog f vs W fun e w' => ∃ v, e = .returned v ∧ Below W.heap.size W w' ∧ ∃ c', GOK Q.τ w' c' ∧ (∀ p ∈ L, Rep w' c' p.1 p.2) ∧ abt W.heap.size w' c' v r := by
 obtain ⟨c, hG, hL⟩ := h.ex
 exact (St.qf amk hr hf hb hnm (show GOK Q.τ W c from hG) hsz (ha c hL)).mono fun e w' ⟨v, c', he, hx, hres⟩ => ⟨v, he, St.yx hx, c', hG.ext hx, fun p hp => (hL p hp).ext hx, hres⟩
theorem amz {W : World} {c : Cls} {v : Value} {a : AV} (h : td W c v a) : ∀ (i : Nat) (x : Value) (y : AV), (#[v] : Array Value)[i]? = some x → [a][i]? = some y → td W c x y := fun i x y hx hy => by
 rcases i with _ | i
 ·simp at hx hy; subst hx; subst hy; exact h
 ·simp at hx
theorem a8t {W0 W : World} {L : List (Value × AV)} (h : Pm W0 L W) {v : Value} {l : List Th} {x : Bool} (hm : (v, AV.sl 3 (cf l)) ∈ L) (hx : dh (.sl 3 (cf l)) = some (.bool x)) :
  Calls Tryz.prog 12 #[v] W fun e w' => e = .returned (.bool x) ∧ Below W.heap.size W w' :=
 (h.call (show ag Q 12 [_] = _ from amn hx) Tryz.func12 rfl (by decide +kernel) rfl fun c hL => amz (.inr (hL _ hm))).mono fun e w' ⟨u, he, hB, c', _, _, hr⟩ => ⟨by rw [he, eo (show Rep w' c' u (.bool x) from hr)], hB⟩
theorem a3s {W0 W : World} {L : List (Value × AV)} (h : Pm W0 L W) {s : ByteArray} (hs : s.size ≤ 300) :
  Calls Tryz.prog 16 #[.string s] W fun e w' => e = .returned (.bool (fk s.data.toList)) ∧ Below W.heap.size W w' :=
 (h.call (show ag Q 16 [.str s.data.toList] = _ from ahn (abb s.data.toList (by rw [← Lib.size_eq]; omega))) Tryz.func16 rfl (by decide +kernel) rfl fun c hL => amz (.inr (Rep.str s))).mono fun e w' ⟨u, he, hB, c', _, _, hr⟩ => ⟨by rw [he, eo (show Rep w' c' u (.bool _) from hr)], hB⟩
theorem atm {W0 W : World} {L : List (Value × AV)} (h : Pm W0 L W) : Calls Tryz.prog 17 #[] W fun e w' => e = .returned (.bool true) ∧ Below W.heap.size W w' :=
 (h.call (show ag Q 17 [] = some (.bool true) from vc) (vs := #[]) Tryz.func17 rfl (by decide +kernel) rfl fun c hL i x y hx => by simp at hx).mono fun e w' ⟨u, he, hB, c', _, _, hr⟩ => ⟨by rw [he, eo (show Rep w' c' u (.bool _) from hr)], hB⟩
theorem a3t {W0 W : World} {L : List (Value × AV)} (h : Pm W0 L W) {s : ByteArray} (hs : s.size ≤ 300) :
  Calls Tryz.prog 18 #[.string s] W fun e w' => ∃ u, e = .returned u ∧ Below W.heap.size W w' ∧ Pm W0 ((u, .sl 1 (br (al s.data.toList))) :: L) w' :=
 (h.call (show ag Q 18 [.str s.data.toList] = _ from aho (wa s.data.toList (by rw [← Lib.size_eq]; omega))) Tryz.func18 rfl (by decide +kernel) rfl fun c hL => amz (.inr (Rep.str s))).mono fun e w' ⟨u, he, hB, c', hG, hL, hr⟩ => ⟨u, he, hB, dp h.bel (Nat.le_refl _) hB, c', hG, fun p hp => by
  rcases List.mem_cons.1 hp with rfl | hp
  ·exact (show eh _ w' c' _ u 1 (br (al s.data.toList)) from hr).1
  ·exact hL p hp⟩
def ajv : Code := sub (Tryz.f5.body.getD .skip) [1, 1, 1, 1, 1, 1]
theorem azs (ts : List Th) (s : List UInt8) (L : List Bs) : runM Q.τ (Q.ann 5) (ag Q) (gl Tryz.f5.results.toList) sy ajv (Abs.look [(0, .sl 3 (cf ts)), (1, .str s), (7, .sl 1 (br (al s))), (9, .sl 1 (br L))]) (sx Q.τ Tryz.f5.results.toList) =
  an.j0 (.sl 3 (cf ts)) (.str s) (.sl 1 (br (al s))) (.sl 1 (br L)) := by
 unfold an.j0
 rw [qx]
 rfl
theorem atn {W0 : World} {v u u' : Value} {ts : List Th} {s : ByteArray} {k : Nat} (hl : ts.length ≤ 12) (hs : ∀ t ∈ ts, zf t) (h : fk s.data.toList = true) (hk : k < (al s.data.toList).length) (a : Act) (w : World)
  (s0 : aj a 0 = v) (s1 : aj a 1 = .string s) (s7 : aj a 7 = u) (s9 : aj a 9 = u') (hz : a.tmps.size = 140) (hd : a.defers = [])
  (hP : Pm W0 [(v, .sl 3 (cf ts)), (u, .sl 1 (br (al s.data.toList))), (u', .sl 1 (br (cw (al s.data.toList) k)))] w) :
  ajv.wp Tryz.prog (bodyPost Tryz.prog Tryz.f5 fun e w' => e = .returned (.bool true) ∧ Below W0.heap.size W0 w') a w := by
 obtain ⟨c, hG, hL⟩ := hP.ex
 have r0 := hL _ (List.mem_cons_self ..)
 have r7 := hL _ (List.mem_cons_of_mem _ (List.mem_cons_self ..))
 have r9 := hL _ (List.mem_cons_of_mem _ (List.mem_cons_of_mem _ (List.mem_cons_self ..)))
 refine aww amk (f := 5) (r := .bool true) (by kernel_rfl) (by kernel_rfl) ((azs ts s.data.toList (cw (al s.data.toList) k)).trans (ahu ts s.data.toList k hl hs h hk)) (c := c) ⟨Nat.le_refl _, hG, fun d => ?_⟩ hd (by rw [hz]; decide +kernel) fun x w' c' hx hr => ⟨by rw [eo (show Rep w' c' x (.bool true) from hr)], dp hP.bel (Nat.le_refl _) (St.yx hx)⟩
 by_cases h0 : d = 0
 ·subst h0; rw [s0]; exact r0
 by_cases h1 : d = 1
 ·subst h1; rw [s1]; exact Rep.str s
 by_cases h7 : d = 7
 ·subst h7; rw [s7]; exact r7
 by_cases h9 : d = 9
 ·subst h9; rw [s9]; exact r9
 have : Abs.look [(0, AV.sl 3 (cf ts)), (1, .str s.data.toList), (7, .sl 1 (br (al s.data.toList))), (9, .sl 1 (br (cw (al s.data.toList) k)))] d = .undef := by
  simp only [Abs.look, du h0, du h1, du h7, du h9]; rfl
 rw [this]; trivial
theorem ato {w : World} {c : Cls} {u : Value} {P : List Bs} (h : Rep w c u (.sl 1 (br P))) (hne : P ≠ []) : ∃ p cap, u = .slice (some p) P.length cap ∧ P.length ≤ cap ∧ p.spot = none ∧ ∀ (j : Nat) (x : Value), (P.map encStr)[j]? = some x → w.cell? (p.add j) = some x := by
 obtain ⟨bo, cap, us, rfl, hcap, hnone, hC, hcell, hspot⟩ := oc h
 have h0 : 0 < P.length := List.length_pos_iff.2 hne
 rw [df] at hcap hspot ⊢
 cases bo with
 | none => have := hnone rfl; omega
 | some p =>
  refine ⟨p, cap, rfl, hcap, hspot p rfl h0, fun j x hj => hcell p rfl j x ?_⟩
  have hl : us.length = P.length := by have := hC.1; rw [df] at this; omega
  rw [List.getElem?_map, Option.map_eq_some_iff] at hj
  obtain ⟨y, hy, rfl⟩ := hj
  have hjl : j < us.length := by rw [hl]; exact (List.getElem?_eq_some_iff.1 hy).1
  have e := List.getElem?_eq_getElem hjl
  have hr := hC.2.2 j 0 [.str y] (.str y) us[j] (j4 hy) rfl (by rw [Nat.mul_one, Nat.add_zero]; exact e)
  obtain ⟨b, e2, hb⟩ := gu hr
  rw [e, e2, ← hb]
theorem Pm.row {W0 w w' : World} {L : List (Value × AV)} (h : Pm W0 L w) (hB : Below w.heap.size w w') {g cap : Nat} {cur : Array Value} {ty : TypeId} {X : List Bs} (hg : w.heap.size ≤ g) (hb : w'.heap[g]? = some (.cells cur ty (0, 0))) (hcap : X.length ≤ cap)
  (hc : ∀ (j : Nat) (t : Bs), X[j]? = some t → cur[j]? = some (encStr t)) : Pm W0 (L ++ [(.slice (some ⟨g, 0, none⟩) X.length cap, .sl 1 (br X))]) w' := by
 obtain ⟨c, hG, hL⟩ := h.ex
 refine ⟨dp h.bel (Nat.le_refl _) hB, _, hG.ext (Cp.ig c hB), fun p hp => ?_⟩
 rcases List.mem_append.1 hp with hp | hp
 ·exact (hL p hp).ext (Cp.ig c hB)
 ·rw [List.mem_singleton] at hp
  subst hp
  have hl := df X
  have key := Rep.sl (w := w') (c := fun b => if b < w.heap.size then c b else .frz) g 0 cap 1 (br X) (fun i j => encStr (X.getD i [])) (by omega) (fun i cs hi => ?_) (fun i j hi hj => ?_) (fun i j hi hj => ?_) (fun i j cs a hi hj => ?_)
  ·rw [hl] at key; exact key
  ·rw [br, List.getElem?_map, Option.map_eq_some_iff] at hi
   obtain ⟨t, _, rfl⟩ := hi; rfl
  ·rw [hl] at hi
   have e : X[i]? = some X[i] := List.getElem?_eq_getElem hi
   have hj0 : j = 0 := by omega
   subst hj0
   rw [Abs.cell_of hb, Nat.zero_add, Nat.mul_one, Nat.add_zero, hc i _ e]
   simp [List.getD_eq_getElem?_getD, e]
  ·unfold dw
   simp only [if_neg (Nat.not_lt.2 hg)]
  ·rw [br, List.getElem?_map, Option.map_eq_some_iff] at hi
   obtain ⟨t, ht, rfl⟩ := hi
   rcases j with _ | j
   ·simp at hj; subst hj
    show Rep w' _ (encStr (X.getD i [])) (.str t)
    rw [List.getD_eq_getElem?_getD, ht]
    exact Rep.str ⟨t.toArray⟩
   ·simp at hj
theorem Pm.sub {W0 W : World} {L L' : List (Value × AV)} (h : Pm W0 L W) (hs : ∀ p ∈ L', p ∈ L) : Pm W0 L' W := by
 obtain ⟨c, hG, hL⟩ := h.ex
 exact ⟨h.bel, c, hG, fun p hp => hL p (hs p hp)⟩
theorem awx {W0 : World} {v : Value} {ts : List Th} {s : ByteArray} {n : Int} (h : Pm W0 [(v, .sl 3 (cf ts))] W0) (hn : -9223372036854775808 ≤ n ∧ n ≤ 9223372036854775807) :
  Calls Tryz.prog 5 #[v, .string s, .int .i64 n] W0 fun e w' => e = .returned (.bool true) ∧ Below W0.heap.size W0 w' := by
 obtain ⟨x, hx, hxs⟩ := ayy ts
 have C1 := Lib.hid (a8t (v := v) h (by simp) hx)
 have hrest := Lib.hid (fun (u u' : Value) (k : Nat) hl hs hp hk => atn (W0 := W0) (v := v) (u := u) (u' := u') (ts := ts) (s := s) (k := k) hl hs hp hk)
 replace h := Lib.hid h
 replace hxs := Lib.hid hxs
 go_enter Tryz.func5, Tryz.ntmps5
 change Code.wp Tryz.prog (.seq _ (.seq _ (.seq _ (.seq _ (.seq _ (.seq _ ajv)))))) _ _ _
 generalize ajv = REST at hrest ⊢
 go_wp2_with fail
 refine C1.out.mono ?_
 rintro e w1 ⟨rfl, hB1⟩
 have P1 := h.out.below hB1
 have CA := Lib.hid (atm P1)
 have hB1 := Lib.hid hB1
 replace P1 := Lib.hid P1
 clear C1
 have hEnd : ∀ w2, Below w1.heap.size w1 w2 → Below W0.heap.size W0 w2 := fun w2 hB2 => dp P1.out.bel (Nat.le_refl _) hB2
 replace hEnd := Lib.hid hEnd
 cases x with
 | false =>
  clear hrest hxs
  go_wp2_with fail
  refine CA.out.mono ?_
  rintro e w2 ⟨rfl, hB2⟩
  replace hB2 := Lib.hid (hEnd.out _ hB2)
  go_wp2_with fail
  go_ret
  exact ⟨rfl, hB2.out⟩
 | true =>
  by_cases hz : (300 : Int) < (s.size : Int)
  ·clear hrest hxs
   go_wp2_with fail
   refine CA.out.mono ?_
   rintro e w2 ⟨rfl, hB2⟩
   replace hB2 := Lib.hid (hEnd.out _ hB2)
   go_wp2_with fail
   go_ret
   exact ⟨rfl, hB2.out⟩
  ·have C2 := Lib.hid (a3s (s := s) P1.out (by omega))
   clear CA
   go_wp2_with fail
   refine C2.out.mono ?_
   rintro e w2 ⟨rfl, hB2⟩
   have P2 := P1.out.below hB2
   have CA := Lib.hid (atm P2)
   have C3 := Lib.hid (a3t (s := s) P2 (by omega))
   replace P2 := Lib.hid P2
   clear C2 hEnd hB2 hB1 P1
   have hEnd : ∀ w3, Below w2.heap.size w2 w3 → Below W0.heap.size W0 w3 := fun w3 hB3 => dp P2.out.bel (Nat.le_refl _) hB3
   replace hEnd := Lib.hid hEnd
   by_cases hpo : fk s.data.toList = true
   ·have hle := ya hpo
    have hne := fj s.data.toList
    replace hrest := Lib.hid (fun u u' k => hrest.out u u' k (hxs.out (by simp)).1 (hxs.out (by simp)).2 hpo)
    rw [hpo]
    clear CA hxs
    go_wp2_with fail
    refine C3.out.mono ?_
    rintro e w3 ⟨u, rfl, hB3, P3⟩
    generalize al s.data.toList = P at hle hne hrest P3
    obtain ⟨p, cap, hu, hcap, hsp, hcell⟩ : ∃ p cap, u = .slice (some p) P.length cap ∧ P.length ≤ cap ∧ p.spot = none ∧ ∀ (j : Nat) (x : Value), (P.map encStr)[j]? = some x → w3.cell? (p.add j) = some x := by
     obtain ⟨c, _, hL⟩ := P3.ex
     exact ato (hL _ (List.mem_cons_self ..)) hne
    subst hu
    have h0 : 0 < P.length := List.length_pos_iff.2 hne
    have hP16 := hle.1
    obtain ⟨k, hkn⟩ : ∃ k : Nat, k = (n % 18446744073709551616).toNat % P.length := ⟨_, rfl⟩
    have hk : k < P.length := by rw [hkn]; exact Nat.mod_lt _ h0
    have w1e : IntKind.wrap .u64 (P.length : Int) = (P.length : Int) := by show (P.length : Int) % 18446744073709551616 = _; omega
    have w2e : IntKind.wrap .u64 n = n % 18446744073709551616 := rfl
    have tme : Int.tmod (n % 18446744073709551616) (P.length : Int) = (k : Int) := by
     rw [Int.tmod_eq_emod_of_nonneg (by omega), hkn]
     have : (n % 18446744073709551616) = (((n % 18446744073709551616).toNat : Nat) : Int) := by omega
     rw [this]; simp
    replace P3 := Lib.hid P3
    replace hcell := Lib.hid hcell
    replace hkn := Lib.hid hkn
    replace hle := Lib.hid hle
    clear hB3 C3 hne hle hkn
    obtain ⟨i0, z, hi, hz1, hz2, hz0, hzs, _⟩ := (ahf 9 _ rfl).info
    go_wp2_with (at_builtin; refine wpList_append_own _ rfl _ _ 37 rfl w3.heap.size 9 i0 z 1 16 Tryz.underlying37 hi hz0 hz1 hz2 hzs (by decide) _ _ _ rfl (World.ownsRow_made w3 #[] 0 (Nat.le_refl _) (Nat.zero_le _) (by simp)) p P.length cap (P.map encStr) rfl ?qc1 ?qc2 ?qc3 ?qc4 ?qc5 ?qc6 ?_)
    ·simp
    ·intro j y hj
     exact Lib.cell?_alloc_some _ (hcell.out j y hj)
    ·intro y hy
     obtain ⟨t, _, rfl⟩ := List.mem_map.1 hy
     rfl
    ·unfold maxLen; omega
    ·omega
    ·simp
    ·intro v' w4 hown hgrow hnil
     have hown : w4.ownsRow w3.heap.size 9 1 v' P.length (P.map encStr) := by simpa using hown
     obtain ⟨hl1, ⟨_, h00⟩ | ⟨g, cap', cur, rfl, hg, hb, hc1, hc2, hc3, hc4⟩⟩ := hown
     ·omega
     have hcur : ∀ (j : Nat) (t : Bs), P[j]? = some t → cur[j]? = some (encStr t) := fun j t ht => by
      have e : (P.map encStr)[j]? = some (encStr t) := by rw [List.getElem?_map, ht]; rfl
      rw [← hc4, List.getElem?_take] at e
      split at e
      ·simpa using e
      ·cases e
     have hB4 : Below w3.heap.size w3 w4 := ⟨hgrow.os, hgrow.tape, hgrow.output, Nat.le_trans (by simp) hgrow.size, fun q hq => by
      rw [hgrow.block q (by simp; omega) (by simp [Value.ownBlock]; omega)]
      exact Below.heap_alloc w3 _ q hq⟩
     obtain ⟨t, ht⟩ : ∃ t, P[k]? = some t := ⟨P[k], List.getElem?_eq_getElem hk⟩
     have hck : w4.cell? ⟨g, k, none⟩ = some (.string ⟨t.toArray⟩) := by rw [Abs.cell_of hb]; exact hcur k t ht
     have hfr : w4.frozen? ⟨g, k, none⟩ = false := by unfold World.frozen?; simp [hb]
     replace hgrow := Lib.hid hgrow
     replace hcur := Lib.hid hcur
     replace hB4 := Lib.hid hB4
     replace hb := Lib.hid hb
     clear hcell hnil hc4 hl1 hi hz1 hz2 hz0 hzs
     by_cases h4 : t = [42, 42]
     ·subst h4
      have hlo : cw P k = P := by unfold cw; exact if_pos ht
      have hck : w4.cell? ⟨g, k, none⟩ = some (.string ⟨#[42, 42]⟩) := hck
      go_wp2_with (refine hrest.out (.slice (some p) P.length cap) (.slice (some ⟨g, 0, none⟩) P.length cap') k hk _ _ rfl rfl rfl rfl rfl rfl ?_)
      rw [hlo]
      refine (P3.out.row hB4.out hg hb.out hc1 hcur.out).sub fun q hq => ?_
      simp only [List.mem_cons, List.not_mem_nil, or_false] at hq
      rcases hq with rfl | rfl | rfl <;> simp
     ·have hne4 : ¬ ((⟨t.toArray⟩ : ByteArray) = ⟨#[42, 42]⟩) := fun e => h4 (by
       have := congrArg (fun b : ByteArray => b.data.toList) e
       simpa using this)
      have hlo : cw P k = P.set k [42] := by unfold cw; exact if_neg (by rw [ht]; simpa using h4)
      go_wp2_with (refine hrest.out (.slice (some p) P.length cap) (.slice (some ⟨g, 0, none⟩) P.length cap') k hk _ _ rfl rfl rfl rfl rfl rfl ?_)
      ·rw [hlo]
       have hsz := heap_setCell_same w4 g k cur 9 (.string ⟨#[42]⟩) hb.out
       have hlen : (P.set k [42]).length = P.length := List.length_set ..
       have key := P3.out.row (rq hB4.out hg (i := k) (.string ⟨#[42]⟩)) (X := P.set k [42]) (cap := cap') hg hsz (by omega) (fun j t' hj => ?_)
       ·rw [hlen] at key
        refine key.sub fun q hq => ?_
        simp only [List.mem_cons, List.not_mem_nil, or_false] at hq
        rcases hq with rfl | rfl | rfl <;> simp
       ·rw [List.getElem?_set] at hj
        have hkc : k < cur.size := by omega
        by_cases hjk : k = j
        ·rw [if_pos hjk, if_pos hk] at hj
         cases hj
         subst hjk
         simp [hkc]
        ·rw [if_neg hjk] at hj
         rw [Array.getElem?_setIfInBounds_ne hjk]
         exact hcur.out j t' hj
      ·exact absurd (by assumption : (!t == [42, 42]) = false) (by simp [h4])
   ·rw [Bool.eq_false_iff.2 hpo]
    clear hrest hxs C3
    go_wp2_with fail
    refine CA.out.mono ?_
    rintro e w3 ⟨rfl, hB3⟩
    replace hB3 := Lib.hid (hEnd.out _ hB3)
    go_wp2_with fail
    go_ret
    exact ⟨rfl, hB3.out⟩
end Go.Proofs.YtmdimhcjogjcgaaGreatDoor.Th
namespace Go.Proofs.YtmdimhcjogjcgaaGreatDoor.Abs
open Go.RowKit
inductive sv (τ : Tab) : Nat → List AV → Prop
 | bool {t s b : Nat} {z : List AV} (h : τ.T t = some ⟨.bool, s, b, z⟩) (x : Bool) : sv τ t [.bool x]
 | int {t s b : Nat} {z : List AV} {k : IntKind} (h : τ.T t = some ⟨.int k, s, b, z⟩) (n : Int) (wf : (Lit.int k n).wf = true) : sv τ t [.int k n]
 | str {t s b : Nat} {z : List AV} (h : τ.T t = some ⟨.str, s, b, z⟩) (l : List UInt8) (hl : l.length ≤ maxLen) : sv τ t [.str l]
 | slice {t s b e : Nat} {z : List AV} {ti : TI} (h : τ.T t = some ⟨.slice e, s, b, z⟩) (he : τ.T e = some ti) (l : List (List AV)) (hlen : l.length ≤ maxLen) (hl : ∀ cs ∈ l, sv τ e cs) : sv τ t [.sl ti.sz l]
 | struct {t s b : Nat} {z : List AV} {fs : List (Nat × Nat)} (h : τ.T t = some ⟨.struct fs, s, b, z⟩) (parts : List (List AV)) (hlen : parts.length = fs.length) (hp : ∀ (i o f : Nat) (p : List AV), fs[i]? = some (o, f) → parts[i]? = some p → sv τ f p) : sv τ t parts.flatten
def af6 (τ : Tab) : Nat → List (Nat × Nat) → Nat → Prop
 | n, [], S => n = S
 | n, (off, ft) :: r, S => off = n ∧ ∃ ti, τ.T ft = some ti ∧ af6 τ (n + ti.sz) r S
def aqj (τ : Tab) (D : Nat → Prop) : Prop := ∀ t, D t → ∃ ti, τ.T t = some ti ∧ (match ti.k with
 | .bool => True | .int _ => True | .str => True
 | .slice e => D e
 | .struct fs => af6 τ 0 fs ti.sz ∧ ∀ o f, (o, f) ∈ fs → D f
 | _ => False)
abbrev sw : Cls := fun _ => .frz
theorem mapM_some {α β : Type} {f : α → Option β} : ∀ {l : List α} {r : List β}, l.mapM f = some r → r.length = l.length ∧ ∀ (i : Nat) (x : α), l[i]? = some x → ∃ y, r[i]? = some y ∧ f x = some y
 | [], r, h => by simp at h; subst h; exact ⟨rfl, fun i x hx => by simp at hx⟩
 | x :: l, r, h => by
  simp only [List.mapM_cons] at h
  obtain ⟨y, h1, h2⟩ := Option.bind_eq_some_iff.1 h
  obtain ⟨ys, h3, h4⟩ := Option.bind_eq_some_iff.1 h2
  cases h4
  obtain ⟨k1, k2⟩ := mapM_some h3
  refine ⟨by simp [k1], fun i x' hx => ?_⟩
  cases i with
  | zero => simp at hx; subst hx; exact ⟨y, rfl, h1⟩
  | succ i => obtain ⟨y', q1, q2⟩ := k2 i x' (by simpa using hx); exact ⟨y', by simpa using q1, q2⟩
section
variable {P : Program} {τ : Tab} {w : World} {H : Type} {enc : TypeId × Value → H} {spare : Nat → Bool} {D : Nat → Prop}
theorem abc (hT : db P τ) {t : Nat} {ti : TI} (h : τ.T t = some ti) : P.cellsOf t = ti.sz := by
 obtain ⟨i, h1, h2⟩ := agq hT h
 simp [Program.cellsOf, h1, h2]
def af7 (τ : Tab) (w : World) (t : Nat) (cs : List Value) (as_ : List AV) : Prop := as_.length = cs.length ∧ sv τ t as_ ∧ ∀ (j : Nat) (u : Value) (a : AV), cs[j]? = some u → as_[j]? = some a → Rep w sw u a
theorem ady (hT : db P τ) {w : World} {g : Nat → List Value → Prop} {cs : List Value} (hg : ∀ f ti vs, τ.T f = some ti → g f vs → vs.length ≤ ti.sz → ∃ as_, af7 τ w f vs as_) :
  ∀ (fs : List (Nat × Nat)) (n S : Nat), af6 τ n fs S → cs.length = S → (∀ o f, (o, f) ∈ fs → g f ((cs.drop o).take (P.cellsOf f))) →
   ∃ parts : List (List AV), parts.length = fs.length ∧ (∀ (i o f : Nat) (p : List AV), fs[i]? = some (o, f) → parts[i]? = some p → sv τ f p) ∧ parts.flatten.length = (cs.drop n).length ∧
    ∀ (j : Nat) (u : Value) (a : AV), (cs.drop n)[j]? = some u → parts.flatten[j]? = some a → Rep w sw u a
 | [], n, S, hc, hl, _ => ⟨[], rfl, fun i o f p h => by simp at h, by have : n = S := hc; subst this; simp [hl], fun j u a _ h => by simp at h⟩
 | (o, f) :: fs, n, S, hc, hl, hf => by
  obtain ⟨rfl, ti, hti, hc⟩ := hc
  have hle : ∀ (fs : List (Nat × Nat)) (n S : Nat), af6 τ n fs S → n ≤ S := by
   intro fs
   induction fs with
   | nil => intro n S h; exact Nat.le_of_eq h
   | cons x fs ih => intro n S h; obtain ⟨_, _, _, h⟩ := h; have := ih _ _ h; omega
  have hcell := abc hT hti
  have hlen : ((cs.drop o).take ti.sz).length = ti.sz := by have := hle _ _ _ hc; simp; omega
  obtain ⟨as_, h1, h2, h3⟩ := hg f ti _ hti (hf o f (by simp)) (by rw [hcell, hlen]; exact Nat.le_refl _)
  rw [hcell] at h1 h3
  rw [hlen] at h1
  obtain ⟨parts, k1, k2, k3, k4⟩ := ady hT hg fs (o + ti.sz) S hc hl fun o' f' hm => hf o' f' (by simp [hm])
  refine ⟨as_ :: parts, by simp [k1], fun i o' f' p hi hp => ?_, ?_, fun j u a hu ha => ?_⟩
  ·cases i with
   | zero => simp at hi hp; obtain ⟨rfl, rfl⟩ := hi; subst hp; exact h2
   | succ i => exact k2 i o' f' p (by simpa using hi) (by simpa using hp)
  ·rw [List.flatten_cons, List.length_append, k3, h1]
   have := hle _ _ _ hc
   simp; omega
  ·rw [List.flatten_cons] at ha
   by_cases hj : j < ti.sz
   ·rw [List.getElem?_append_left (by omega)] at ha
    exact h3 j u a (by rw [List.getElem?_take, if_pos hj]; exact hu) ha
   ·rw [List.getElem?_append_right (by omega), h1] at ha
    refine k4 (j - ti.sz) u a ?_ ha
    rw [List.getElem?_drop] at hu ⊢
    rw [show o + ti.sz + (j - ti.sz) = o + j by omega]; exact hu
theorem trod_struct {fuel t : Nat} {F : Array Field} {cs : List Value} (hF : P.underlying t = some (.struct F)) : DataW.trod enc P w 0 spare true (fuel + 1) t cs =
  if cs.length = P.cellsOf t then (F.toList.mapM fun f => DataW.trod enc P w 0 spare true fuel f.type ((cs.drop f.offset).take (P.cellsOf f.type))).map fun xs => (.agg (xs.map (·.1)), xs.flatMap (·.2)) else none := by
 simp [DataW.trod, hF]
theorem aco (hT : db P τ) (hD : aqj τ D) : ∀ (fuel t : Nat) (cs : List Value) (d : DataW H) (p : List MemPlace), D t → DataW.trod enc P w 0 spare true fuel t cs = some (d, p) → ∃ as_, af7 τ w t cs as_
 | 0, _, _, _, _, _, h => by cases h
 | fuel + 1, t, cs, d, p, hDt, h => by
  obtain ⟨ti, hti, hk⟩ := hD t hDt
  have hkind := (hT t ti hti).kind
  obtain ⟨k, sz, bb, zz⟩ := ti
  cases k <;> simp only at hk hkind
  case bool =>
   unfold DataW.trod at h
   rw [hkind.1] at h
   split at h <;> rename_i hu <;> first | (cases hu; done) | (cases h; done) | skip
   rename_i b
   exact ⟨[.bool b], rfl, .bool hti b, fun j u a hu ha => by cases j <;> simp at hu ha; subst hu; subst ha; exact .bool b⟩
  case int k =>
   unfold DataW.trod at h
   rw [hkind.1] at h
   split at h <;> rename_i hu <;> first | (cases hu; done) | (cases h; done) | skip
   rename_i k' k2 n
   cases hu
   split at h
   ·rename_i hw
    obtain ⟨rfl, hw⟩ := hw
    exact ⟨[.int k2 n], rfl, .int hti n hw, fun j u a hu ha => by cases j <;> simp at hu ha; subst hu; subst ha; exact .int k2 n⟩
   ·cases h
  case str =>
   unfold DataW.trod at h
   rw [hkind.1] at h
   split at h <;> rename_i hu <;> first | (cases hu; done) | (cases h; done) | skip
   rename_i s
   split at h
   ·rename_i hw
    exact ⟨[.str s.data.toList], rfl, .str hti _ (by simpa using hw), fun j u a hu ha => by cases j <;> simp at hu ha; subst hu; subst ha; exact .str s⟩
   ·cases h
  case struct fs =>
   obtain ⟨F, hF, hfs, _⟩ := hkind
   rw [trod_struct hF] at h
   split at h
   ·rename_i hlen
    obtain ⟨xs, h1, _⟩ := Option.map_eq_some_iff.1 h
    obtain ⟨m1, m2⟩ := mapM_some h1
    have hcell := abc hT hti
    rw [hcell] at hlen
    obtain ⟨parts, k1, k2, k3, k4⟩ := ady hT (w := w) (g := fun f vs => D f ∧ ∃ x, DataW.trod enc P w 0 spare true fuel f vs = some x) (cs := cs) (fun f ti vs hf hg hle => by
     obtain ⟨q1, ⟨d', p'⟩, q2⟩ := hg
     exact aco hT hD fuel f vs d' p' q1 q2) fs 0 sz hk.1 hlen (fun o f hm => by
     rw [hfs] at hm
     obtain ⟨g, hg1, hg2⟩ := List.mem_map.1 hm
     cases hg2
     obtain ⟨i, hi, rfl⟩ := List.getElem_of_mem hg1
     obtain ⟨y, _, q2⟩ := m2 i _ (List.getElem?_eq_getElem hi)
     exact ⟨hk.2 _ _ (by rw [hfs]; exact hm), y, q2⟩)
    exact ⟨parts.flatten, by simpa using k3, .struct hti parts k1 k2, fun j u a hu ha => k4 j u a (by simpa using hu) ha⟩
   ·cases h
  case slice e =>
   unfold DataW.trod at h
   rw [hkind.1.1] at h
   obtain ⟨te, hte, _⟩ := hD e hk
   have hcell := abc hT hte
   have hpos := (hT e te hte).pos
   split at h <;> rename_i hu <;> first | (cases hu; done) | (cases h; done) | skip
   ·exact ⟨[.sl te.sz []], rfl, .slice hti hte [] (by simp) (fun cs h => by cases h), fun j u a hu ha => by cases j <;> simp at hu ha; subst hu; subst ha; exact .nil _⟩
   ·rename_i e' a len cap
    cases hu
    split at h
    ·rename_i hb
     obtain ⟨_, hlc, hcm⟩ := hb
     obtain ⟨elems, h1, _⟩ := Option.bind_eq_some_iff.1 h
     obtain ⟨m1, m2⟩ := mapM_some h1
     rw [List.length_range] at m1
     have each : ∀ i, i < len → ∃ (vs : List Value) (as_ : List AV), vs.length = te.sz ∧ (∀ j, j < te.sz → w.cell? ((a.add (i * te.sz)).add j) = vs[j]?) ∧ af7 τ w e vs as_ := fun i hi => by
      obtain ⟨y, _, q2⟩ := m2 i i (by simp [hi])
      rw [hcell] at q2
      obtain ⟨vs, q3, q4⟩ := Option.bind_eq_some_iff.1 q2
      obtain ⟨_, q5, q6⟩ := World.cells?_some q3
      obtain ⟨as_, q7⟩ := aco hT hD fuel e vs y.1 y.2 hk q4
      exact ⟨vs, as_, q5, q6, q7⟩
     by_cases hl0 : len = 0
     ·subst hl0
      exact ⟨[.sl te.sz []], rfl, .slice hti hte [] (by simp) (fun cs h => by cases h), fun j u a' hu ha => by cases j <;> simp at hu ha; subst hu; subst ha; exact .emp _ _ _⟩
     ·have hspot : a.spot = none := by
       obtain ⟨vs, as_, q1, q2, _⟩ := each 0 (by omega)
       have := q2 0 hpos
       rw [Nat.zero_mul, show (a.add 0).add 0 = a by simp [Addr.add], List.getElem?_eq_getElem (by omega)] at this
       unfold World.cell? at this
       split at this
       ·cases hs : a.spot with
        | none => rfl
        | some x => rw [hs] at this; simp at this
       ·cases this
      obtain ⟨b, o, sp⟩ := a
      obtain rfl : sp = none := hspot
      let vsf : Nat → List Value := fun i => if hi : i < len then (each i hi).choose else []
      let asf : Nat → List AV := fun i => if hi : i < len then (each i hi).choose_spec.choose else []
      have hvs : ∀ i, i < len → (vsf i).length = te.sz ∧ (∀ j, j < te.sz → w.cell? (((⟨b, o, none⟩ : Addr).add (i * te.sz)).add j) = (vsf i)[j]?) ∧ af7 τ w e (vsf i) (asf i) := fun i hi => by
       simp only [vsf, asf, hi, dif_pos]
       exact (each i hi).choose_spec.choose_spec
      have hlen : ((List.range len).map asf).length = len := by simp
      have hget : ∀ (i : Nat) (cs : List AV), ((List.range len).map asf)[i]? = some cs → i < len ∧ cs = asf i := fun i cs hi => by
       have hi' : i < len := by simpa using (List.getElem?_eq_some_iff.1 hi).1
       rw [List.getElem?_map, List.getElem?_range hi'] at hi
       exact ⟨hi', by simpa using hi.symm⟩
      refine ⟨[.sl te.sz ((List.range len).map asf)], rfl, .slice hti hte _ (by rw [hlen]; omega) (fun cs hcs => ?_), fun j u a' hu ha => ?_⟩
      ·obtain ⟨i, hi⟩ := List.getElem?_of_mem hcs
       obtain ⟨hi', rfl⟩ := hget i cs hi
       exact (hvs i hi').2.2.2.1
      ·cases j <;> simp at hu ha
       subst hu; subst ha
       have := Rep.sl (w := w) (c := sw) b o cap te.sz ((List.range len).map asf) (fun i j => (vsf i).getD j undef) (by rw [hlen]; exact hlc) (fun i cs hi => by
         obtain ⟨hi', rfl⟩ := hget i cs hi
         have h3 := hvs i hi'
         rw [h3.2.2.1, h3.1])
        (fun i j hi hj => by
         rw [hlen] at hi
         have h3 := hvs i hi
         have := h3.2.1 j hj
         rw [j6, j6] at this
         rw [← Nat.add_assoc, this]
         simp [h3.1, hj]) (fun i j hi hj => trivial)
        (fun i j cs x hi hx => by
         obtain ⟨hi', rfl⟩ := hget i cs hi
         have h3 := hvs i hi'
         have hj : j < (vsf i).length := by rw [← h3.2.2.1]; exact (List.getElem?_eq_some_iff.1 hx).1
         exact h3.2.2.2.2 j _ x (by simp [hj]) hx)
       rw [hlen] at this
       exact this
    ·cases h
  all_goals exact hk.elim
end
end Go.Proofs.YtmdimhcjogjcgaaGreatDoor.Abs
