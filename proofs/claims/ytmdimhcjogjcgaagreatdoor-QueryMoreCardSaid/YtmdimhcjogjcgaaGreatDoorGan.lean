/- Finding fields, and 'below': the program and the document. -/
import Derived.Test.YtmdimhcjogjcgaaGreatDoorGam
set_option linter.all false
noncomputable section
namespace Go.Proofs.YtmdimhcjogjcgaaGreatDoor.Lat
open Go.Proofs.YtmdimhcjogjcgaaGreatDoor.Abs
abbrev Rn := Nam.ek
def Found (fs : List Fd) (s : Bs) (k : Int) : Prop := (k = -1 ∧ findF fs s = none) ∨ (∃ (j : Nat) (f : Fd), k = (j : Int) ∧ fs[j]? = some f ∧ f.n = s ∧ findF fs s = some f.v)
theorem apg (f : Fd) (r : List Fd) (s : Bs) : findF (f :: r) s = if f.n = s then some f.v else findF r s := by cases f; rfl
theorem aia : ∀ (fs : List Fd) (s : Bs), (∀ f ∈ fs, f.n ≠ s) → findF fs s = none
 | [], s, h => rfl
 | f :: r, s, h => by rw [apg, if_neg (h f (List.mem_cons_self ..)), aia r s fun g hg => h g (List.mem_cons_of_mem _ hg)]
theorem mw (R : Bs → Bool) : ∀ (fs : List Fd) (p : Option Bs), ij R p fs = true → ∀ (i j : Nat) (f g : Fd), i < j → fs[i]? = some f → fs[j]? = some g → ai f.n g.n = true
 | [], p, h, i, j, f, g, hij, hi, hj => by simp at hi
 | x :: r, p, h, i, j, f, g, hij, hi, hj => by
  have ht := ta R h
  obtain ⟨j, rfl⟩ : ∃ j', j = j' + 1 := ⟨j - 1, by omega⟩
  rw [List.getElem?_cons_succ] at hj
  cases i with
  | zero =>
   rw [List.getElem?_cons_zero] at hi
   cases hi
   exact abr R r _ ht g (List.mem_of_getElem? hj)
  | succ i =>
   rw [List.getElem?_cons_succ] at hi
   exact mw R r _ ht i j f g (by omega) hi hj
theorem a2m (a b : Nat) (h : a + b ≤ 4294967296) : w64 (Int.fdiv (IntKind.wrap .u64 (w64 ((a : Int) + (b : Int)))) (2 ^ (min (1 : Int).toNat (IntKind.bits .u64)))) = (((a + b) / 2 : Nat) : Int) := by
 rw [ag0 (by omega)]
 have e1 : IntKind.wrap .u64 ((a + b : Nat) : Int) = ((a + b : Nat) : Int) := by
  simp [IntKind.wrap, IntKind.bits, IntKind.signed]; omega
 rw [e1]
 have e2 : (2 : Int) ^ (min (1 : Int).toNat (IntKind.bits .u64)) = 2 := by decide
 rw [e2, Int.fdiv_eq_ediv_of_nonneg _ (by omega), xn (by omega)]
 omega
theorem an2 (f : Fd) (s : Bs) : ag S 262 ([AV.agg 2 (jg f), AV.str s] ++ []) = some (.int .i64 (if ai f.n s = true then -1 else if f.n = s then 0 else 1)) := by
 have : vy (.agg 2 (jg f)) (.str s) = some (.int .i64 (if ai f.n s = true then -1 else if f.n = s then 0 else 1)) := by
  rw [vy.ae]
  simp only [h0, gx]
  cases h : ai f.n s with
  | true => simp [ifT]
  | false => by_cases he : f.n = s <;> simp [he, ifT, ifF]
 exact this
theorem ayi (fs : List Fd) (s : Bs) (p : Option Bs) (hr : ij Rn p fs = true) (hl : fs.length ≤ 1073741824) : ∀ (d lo hi : Nat), hi - lo ≤ d → lo ≤ hi → hi ≤ fs.length → (∀ j f, j < lo → fs[j]? = some f → ai f.n s = true) → (∀ j f, hi ≤ j → fs[j]? = some f → ai f.n s = false) →
  ∃ (k : Nat) (b : Bool), au.l0 (.sl 2 (cb fs)) (.str s) (.fn 262 []) (.int .i64 (fs.length : Int)) (.int .i64 (lo : Int)) (.int .i64 (hi : Int)) = some (.tup [.int .i64 (k : Int), .bool b]) ∧ (b = true → ∃ f, fs[k]? = some f ∧ f.n = s) ∧ (b = false → ∀ f ∈ fs, f.n ≠ s) := by
 intro d
 induction d with
 | zero =>
  intro lo hi hd hle hhi hA hB
  obtain rfl : lo = hi := by omega
  rw [au.ar, decide_eq_false (by omega), ifF]
  by_cases hlt : lo < fs.length
  ·have e1 : fs[lo]? = some fs[lo] := List.getElem?_eq_getElem hlt
   rw [decide_eq_true (by omega), ifT]
   simp only [ay (fo e1), an2, ad, dn]
   have hb := hB lo _ (Nat.le_refl _) e1
   refine ⟨lo, _, rfl, fun hb' => ?_, fun hb' f hf he => ?_⟩
   ·rw [hb] at hb'
    by_cases he : fs[lo].n = s
    ·exact ⟨_, e1, he⟩
    ·simp [he] at hb'
   ·obtain ⟨j, hj⟩ := List.getElem?_of_mem hf
    rcases Nat.lt_trichotomy j lo with hc | hc | hc
    ·have := hA j f hc hj
     rw [he, ic] at this; cases this
    ·subst hc
     rw [e1] at hj; cases hj
     rw [hb] at hb'
     simp [he] at hb'
    ·have h1 := mw Rn fs p hr lo j _ _ hc e1 hj
     rw [he, hb] at h1; cases h1
  ·rw [decide_eq_false (by omega), ifF]
   refine ⟨lo, false, rfl, fun hb' => Bool.noConfusion hb', fun _ f hf he => ?_⟩
   obtain ⟨j, hj⟩ := List.getElem?_of_mem hf
   have hjl := (List.getElem?_eq_some_iff.1 hj).1
   have := hA j f (by omega) hj
   rw [he, ic] at this; cases this
 | succ d ih =>
  intro lo hi hd hle hhi hA hB
  by_cases heq : lo = hi
  ·exact ih lo hi (by omega) hle hhi hA hB
  rw [au.ar, decide_eq_true (by omega), ifT, decide_eq_true (by omega), guT, a2m lo hi (by omega)]
  have hm : (lo + hi) / 2 < fs.length := by omega
  generalize hq : (lo + hi) / 2 = m at hm ⊢
  have e1 : fs[m]? = some fs[m] := List.getElem?_eq_getElem hm
  simp only [ay (fo e1), an2, ad, dn]
  rw [bf (by omega)]
  cases hb : ai fs[m].n s with
  | true =>
   rw [if_pos rfl, decide_eq_true (by omega), ifT]
   refine ih (m + 1) hi (by omega) (by omega) hhi (fun j f hj hf => ?_) hB
   rcases Nat.lt_or_ge j m with hc | hc
   ·exact qy _ _ _ (mw Rn fs p hr j m _ _ hc hf e1) hb
   ·obtain rfl : j = m := by omega
    rw [e1] at hf; cases hf; exact hb
  | false =>
   rw [if_neg (by simp)]
   have : decide ((if fs[m].n = s then (0 : Int) else 1) < 0) = false := by split <;> rfl
   rw [this, ifF]
   refine ih lo m (by omega) (by omega) (by omega) hA (fun j f hj hf => ?_)
   rcases Nat.lt_or_ge m j with hc | hc
   ·have h1 := mw Rn fs p hr m j _ _ hc e1 hf
    cases h2 : ai f.n s with
    | false => rfl
    | true => have := qy _ _ _ h1 h2; rw [hb] at this; cases this
   ·obtain rfl : j = m := by omega
    rw [e1] at hf; cases hf; exact hb
theorem ak2 (fs : List Fd) (s : Bs) (p : Option Bs) (hr : ij Rn p fs = true) (hl : fs.length ≤ 1073741824) : ∃ k, tj (.sl 2 (cb fs)) (.str s) = some (.int .i64 k) ∧ Found fs s k := by
 rw [tj.ae, au.ae, ed]
 obtain ⟨k, b, h, h1, h2⟩ := ayi fs s p hr hl fs.length 0 fs.length (by omega) (by omega) (Nat.le_refl _) (fun j f hj => by omega) (fun j f hj hf => by have := (List.getElem?_eq_some_iff.1 hf).1; omega)
 rw [e00] at h
 rw [h]
 simp only [ad, ajn, dn, en]
 cases b with
 | true =>
  obtain ⟨f, hf, he⟩ := h1 rfl
  refine ⟨k, rfl, Or.inr ⟨k, f, rfl, hf, he, ?_⟩⟩
  rw [← he]; exact akf Rn fs p hr f (List.mem_of_getElem? hf)
 | false => exact ⟨-1, rfl, Or.inl ⟨rfl, aia fs s (h2 rfl)⟩⟩
theorem ak3 (fs : List Fd) (g : Nat) (c : List AV) (q : Fd → Bool) (hl : fs.length ≤ 1073741824) (h : ∀ f ∈ fs, ag S g ([AV.agg 2 (jg f)] ++ c) = some (.bool (q f))) : ∀ (d i : Nat), i + d = fs.length → ∃ k : Int, ch.l0 (.sl 2 (cb fs)) (.fn g c) (.int .i64 (fs.length : Int)) (.int .i64 (i : Int)) = some (.int .i64 k) ∧ decide (0 ≤ k) = (fs.drop i).any q
 | 0, i, hi => ⟨-1, by rw [ch.ar, decide_eq_false (by omega), ifF], by rw [bw (by omega)]; rfl⟩
 | d + 1, i, hi => by
  have h1' : i < fs.length := by omega
  have e1 : fs[i]? = some fs[i] := List.getElem?_eq_getElem h1'
  rw [ch.ar, decide_eq_true (by omega), ifT, ay (fo e1), h _ (List.getElem_mem h1'), bc h1', List.any_cons]
  simp only [ad, en]
  cases q fs[i] with
  | true => exact ⟨i, rfl, by simp⟩
  | false => rw [ifF, bf (by omega), Bool.false_or]; exact ak3 fs g c q hl h d (i + 1) (by omega)
theorem an3 (fs : List Fd) (g : Nat) (c : List AV) (q : Fd → Bool) (hl : fs.length ≤ 1073741824) (h : ∀ f ∈ fs, ag S g ([AV.agg 2 (jg f)] ++ c) = some (.bool (q f))) : eg (.sl 2 (cb fs)) (.fn g c) = some (.bool (fs.any q)) := by
 obtain ⟨k, hk, hq⟩ := ak3 fs g c q hl h fs.length 0 (by omega)
 rw [e00] at hk
 rw [eg.ae, ch.ae, ed, hk]
 simp only [ad, dn, hq, List.drop_zero]
theorem ak4 (v : List Tm) (g : Nat) (c : List AV) (q : Tm → Bool) (hl : v.length ≤ 1073741824) (h : ∀ t ∈ v, ag S g ([AV.agg 8 (ah t)] ++ c) = some (.bool (q t))) : ∀ (d i : Nat), i + d = v.length → ∃ k : Int, cp.l0 (.sl 8 (ak v)) (.fn g c) (.int .i64 (v.length : Int)) (.int .i64 (i : Int)) = some (.int .i64 k) ∧ decide (0 ≤ k) = (v.drop i).any q
 | 0, i, hi => ⟨-1, by rw [cp.ar, decide_eq_false (by omega), ifF], by rw [bw (by omega)]; rfl⟩
 | d + 1, i, hi => by
  have h1' : i < v.length := by omega
  have e1 : v[i]? = some v[i] := List.getElem?_eq_getElem h1'
  rw [cp.ar, decide_eq_true (by omega), ifT, ay (jc e1), h _ (List.getElem_mem h1'), bc h1', List.any_cons]
  simp only [ad, en]
  cases q v[i] with
  | true => exact ⟨i, rfl, by simp⟩
  | false => rw [ifF, bf (by omega), Bool.false_or]; exact ak4 v g c q hl h d (i + 1) (by omega)
theorem ayj (v : List Tm) (g : Nat) (c : List AV) (q : Tm → Bool) (hl : v.length ≤ 1073741824) (h : ∀ t ∈ v, ag S g ([AV.agg 8 (ah t)] ++ c) = some (.bool (q t))) : gi (.sl 8 (ak v)) (.fn g c) = some (.bool (v.any q)) := by
 obtain ⟨k, hk, hq⟩ := ak4 v g c q hl h v.length 0 (by omega)
 rw [e00] at hk
 rw [gi.ae, cp.ae, di, hk]
 simp only [ad, dn, hq, List.drop_zero]
mutual
def rnT : Tm → Bool
 | .mk k _ _ _ _ _ _ fs => if k = 4 then ij Rn none fs && rnF fs else true
def rnF : List Fd → Bool
 | [] => true
 | .mk _ v :: r => rnL v && rnF r
def rnL : List Tm → Bool
 | [] => true
 | t :: r => rnT t && rnL r
end
theorem ag3 : ∀ (fs : List Fd), rnF fs = true → ∀ f ∈ fs, rnL f.v = true
 | [], h, f, hf => by cases hf
 | .mk n v :: r, h, f, hf => by
  rw [rnF, Bool.and_eq_true] at h
  rcases List.mem_cons.1 hf with rfl | hf
  ·exact h.1
  ·exact ag3 r h.2 f hf
theorem zr : ∀ (v : List Tm), rnL v = true → ∀ t ∈ v, rnT t = true
 | [], h, t, ht => by cases ht
 | x :: r, h, t, ht => by
  rw [rnL, Bool.and_eq_true] at h
  rcases List.mem_cons.1 ht with rfl | ht
  ·exact h.1
  ·exact zr r h.2 t ht
theorem ar0 {t : Tm} (h : rnT t = true) (hk : t.k = 4) : ij Rn none t.fs = true ∧ rnF t.fs = true := by
 obtain ⟨k, lo, hi, s, a, m, o, fs⟩ := t
 simp only [Tm.k] at hk
 rw [rnT, if_pos hk, Bool.and_eq_true] at h
 exact h
theorem ayk (a b : Tm) : oh a b = (decide (b.k = 5) || (if a.k ≠ 4 ∨ b.k ≠ 4 then ae0 a b else (!a.o || b.o) && (b.o || hasAll a.fs b.fs) && aad a.fs b.fs)) := by cases b; rw [oh]; rfl
theorem ar1 (a : List Fd) (f : Fd) (r : List Fd) : aad a (f :: r) = ((match findF a f.n with | some w => abp w f.v | none => false) && aad a r) := by cases f; rw [aad]; rfl
theorem ak5 (t : Tm) : ∀ v : List Tm, aka t v = v.any fun u => oh t u
 | [] => rfl
 | u :: r => by rw [aka, ak5 t r, List.any_cons]
theorem avd {α : Type} {fs : List Fd} {j : Nat} {f : Fd} (h : fs[j]? = some f) (k : List AV → Option α) : idx (cb fs) (j : Int) k = k (jg f) := ay (fo h) k
theorem an4 {β : Type} (l : List β) (q : β → Bool) : (l.any fun x => !q x) = !(l.all q) := by
 induction l with
 | nil => rfl
 | cons x r ih => rw [List.any_cons, List.all_cons, ih]; cases q x <;> rfl
theorem ar2 {fs : List Fd} {f : Fd} (h : f ∈ fs) : 1 + szV f.v ≤ szF fs := by
 obtain ⟨i, hi⟩ := List.getElem?_of_mem h
 exact mv hi
theorem oe {v : List Tm} {t : Tm} (h : t ∈ v) : szT t ≤ szV v := by
 obtain ⟨i, hi⟩ := List.getElem?_of_mem h
 exact pn hi
theorem adn (a : Tm) (fs : List Fd) (ha : ij Rn none a.fs = true) (hla : a.fs.length ≤ 1073741824) (hl : fs.length ≤ 1073741824)
  (h : ∀ f ∈ a.fs, ∀ g ∈ fs, ga (.agg 1 [.sl 8 (ak f.v)]) (.agg 1 [.sl 8 (ak g.v)]) = some (.bool (abp f.v g.v))) :
  ∀ (d i : Nat), i + d = fs.length → dy.l0 (.boxv 8 (ah a) []) (.sl 2 (cb fs)) (.int .i64 (fs.length : Int)) (.int .i64 (i : Int)) = some (.bool (aad a.fs (fs.drop i)))
 | 0, i, hi => by rw [dy.ar, decide_eq_false (by omega), ifF, bw (by omega)]; rw [aad]
 | d + 1, i, hi => by
  have h1' : i < fs.length := by omega
  have e1 : fs[i]? = some fs[i] := List.getElem?_eq_getElem h1'
  rw [dy.ar, decide_eq_true (by omega), ifT, bc h1', ar1]
  simp only [ay (fo e1), g7, lx, h0, gx]
  obtain ⟨k, hk, hF⟩ := ak2 a.fs fs[i].n none ha hla
  rw [hk]
  simp only [ad, dn]
  rcases hF with ⟨rfl, hn⟩ | ⟨j, f, rfl, hf, he, hn⟩
  ·rw [decide_eq_true (by omega), ifT, hn]; rfl
  ·rw [decide_eq_false (by omega), ifF, hn]
   simp only [avd hf, h1, frz]
   rw [h f (List.mem_of_getElem? hf) _ (List.getElem_mem h1')]
   simp only [ad, en]
   rw [bf (by omega), adn a fs ha hla hl h d (i + 1) (by omega)]
   cases abp f.v fs[i].v <;> rfl
theorem ar3 (a b : Tm) (hb : ij Rn none b.fs = true) (hla : a.fs.length ≤ 1073741824) (hl : b.fs.length ≤ 1073741824) : uy (.agg 8 (ah b)) (.agg 8 (ah a)) = some (.bool (!b.o && !hasAll a.fs b.fs)) := by
 rw [uy.ae]
 have := an3 a.fs 260 [AV.eptr 8 (ah b) 0] (fun f => !(findF b.fs f.n).isSome) hla (fun f hf => by
  have : uf (.agg 2 (jg f)) (.eptr 8 (ah b) 0) = some (.bool (!(findF b.fs f.n).isSome)) := by
   rw [uf.ae]
   simp only [g7, lx, h0, gx]
   obtain ⟨k, hk, hF⟩ := ak2 b.fs f.n none hb hl
   rw [hk]
   simp only [ad, dn]
   rcases hF with ⟨rfl, hn⟩ | ⟨j, g, rfl, hg, he, hn⟩
   ·rw [hn]; rfl
   ·rw [hn, decide_eq_false (by omega)]; rfl
  exact this)
 simp only [g6, g7, en, lx, this, ad, j8]
 congr 3
 exact an4 _ _
theorem ayl {a b : Tm} (ha : rnT a = true) (hb : rnT b = true) (hla : a.fs.length ≤ 1073741824) (hl : b.fs.length ≤ 1073741824)
  (h : rnF a.fs = true → rnF b.fs = true → ∀ f ∈ a.fs, ∀ g ∈ b.fs, ga (.agg 1 [.sl 8 (ak f.v)]) (.agg 1 [.sl 8 (ak g.v)]) = some (.bool (abp f.v g.v))) :
  dy (.agg 8 (ah a)) (.agg 8 (ah b)) = some (.bool (oh a b)) := by
 rw [dy.ae, ayk]
 simp only [g0, g6, g7, dn, en, lx, aro, ad, orK, j8]
 by_cases h5 : b.k = 5
 ·simp [h5, ifT]
 rw [decide_eq_false h5, ifF, Bool.false_or]
 by_cases h4 : a.k ≠ 4 ∨ b.k ≠ 4
 ·rw [if_pos h4]
  have : (!decide (a.k = b.k) || !decide (a.k = 4)) = true := by
   simp
   rcases Classical.em (a.k = b.k) with he | he
   ·right; intro h; rcases h4 with h' | h' <;> omega
   ·left; exact he
  rw [this, ifT]
 ·rw [if_neg h4]
  have hk : a.k = 4 ∧ b.k = 4 := by omega
  obtain ⟨ka, kb⟩ := hk
  obtain ⟨ra, na⟩ := ar0 ha ka
  obtain ⟨rb, nb⟩ := ar0 hb kb
  have hl0 := adn a b.fs ra hla hl (h na nb) b.fs.length 0 (by omega)
  rw [e00, List.drop_zero] at hl0
  simp only [ka, kb, decide_true, Bool.not_true, Bool.or_self, ifF, ar3 a b rb hla hl, ad, en, orK, ed, hl0]
  cases a.o <;> cases b.o <;> cases hasAll a.fs b.fs <;> cases aad a.fs b.fs <;> rfl
theorem aib (v w : List Tm) (hlv : v.length ≤ 1073741824) (hlw : w.length ≤ 1073741824) (h : ∀ t ∈ v, ∀ u ∈ w, dy (.agg 8 (ah t)) (.agg 8 (ah u)) = some (.bool (oh t u))) :
  ∀ (d i : Nat), i + d = v.length → ga.l0 (.boxv 1 [.sl 8 (ak w)] []) (.sl 8 (ak v)) (.int .i64 (v.length : Int)) (.int .i64 (i : Int)) = some (.bool (abp (v.drop i) w))
 | 0, i, hi => by rw [ga.ar, decide_eq_false (by omega), ifF, bw (by omega)]; rfl
 | d + 1, i, hi => by
  have h1' : i < v.length := by omega
  have e1 : v[i]? = some v[i] := List.getElem?_eq_getElem h1'
  have := ayj w 264 [AV.eptr 8 (ah v[i]) 0] (fun u => oh v[i] u) hlw (fun u hu => by
   have : ug (.agg 8 (ah u)) (.eptr 8 (ah v[i]) 0) = some (.bool (oh v[i] u)) := by
    rw [ug.ae, h _ (List.getElem_mem h1') u hu]; rfl
   exact this)
  rw [ga.ar, decide_eq_true (by omega), ifT, bc h1']
  simp only [ay (jc e1), v0, jr, this, ad, en]
  rw [bf (by omega), aib v w hlv hlw h d (i + 1) (by omega)]
  unfold abp
  rw [List.all_cons, ak5]
  cases w.any fun u => oh v[i] u <;> rfl
theorem aic {v w : List Tm} (hlv : v.length ≤ 1073741824) (hlw : w.length ≤ 1073741824) (h : ∀ t ∈ v, ∀ u ∈ w, dy (.agg 8 (ah t)) (.agg 8 (ah u)) = some (.bool (oh t u))) :
  ga (.agg 1 [.sl 8 (ak v)]) (.agg 1 [.sl 8 (ak w)]) = some (.bool (abp v w)) := by
 have := aib v w hlv hlw h v.length 0 (by omega)
 rw [ga.ae]
 simp only [v0, jr, di]
 rw [e00, List.drop_zero] at this
 exact this
theorem an5 : ∀ (n : Nat), n ≤ 1073741824 →
  (∀ a b : Tm, szT a ≤ 1073741824 → szT b ≤ n → rnT a = true → rnT b = true → dy (.agg 8 (ah a)) (.agg 8 (ah b)) = some (.bool (oh a b))) ∧
  (∀ v w : List Tm, szV v ≤ 1073741824 → szV w ≤ n → rnL v = true → rnL w = true → ga (.agg 1 [.sl 8 (ak v)]) (.agg 1 [.sl 8 (ak w)]) = some (.bool (abp v w)))
 | 0, _ => by
  refine ⟨fun a b ha hb => ?_, fun v w hv hw _ _ => ?_⟩
  ·rw [fq] at hb; omega
  ·have hl := fx w
   have hl' := fx v
   obtain rfl : w = [] := List.eq_nil_of_length_eq_zero (by omega)
   exact aic (by omega) (by simp) (fun t ht u hu => by cases hu)
 | n + 1, hn => by
  obtain ⟨hT, hV⟩ := an5 n (by omega)
  have hT' : ∀ a b : Tm, szT a ≤ 1073741824 → szT b ≤ n + 1 → rnT a = true → rnT b = true → dy (.agg 8 (ah a)) (.agg 8 (ah b)) = some (.bool (oh a b)) := fun a b ha hb ra rb => by
   rw [fq] at ha hb
   have hla := ie a.fs
   have hlb := ie b.fs
   refine ayl ra rb (by omega) (by omega) fun na nb f hf g hg => hV f.v g.v ?_ ?_ (ag3 _ na f hf) (ag3 _ nb g hg)
   ·have := ar2 hf; omega
   ·have := ar2 hg; omega
  refine ⟨hT', fun v w hv hw rv rw' => ?_⟩
  have hl := fx w
  have hl' := fx v
  refine aic (by omega) (by omega) fun t ht u hu => hT' t u ?_ ?_ (zr _ rv t ht) (zr _ rw' u hu)
  ·have := oe ht; omega
  ·have := oe hu; omega
mutual
theorem a2n : ∀ (t : Tm) (d : Int), liT Rn d t = true → rnT t = true
 | .mk k lo hi s a m o fs, d, h => by
  rw [rnT]
  by_cases h4 : k = 4
  ·rw [liT, if_neg (by omega), if_pos h4, Bool.and_eq_true] at h
   rw [if_pos h4, Bool.and_eq_true]
   refine ⟨?_, ar4 fs _ h.2⟩
   have := h.1
   rw [uc] at this
   simp only [Bool.and_eq_true] at this
   exact this.2
  ·rw [if_neg h4]
theorem ar4 : ∀ (fs : List Fd) (d : Int), liF Rn d fs = true → rnF fs = true
 | [], d, h => rfl
 | .mk n v :: r, d, h => by
  rw [liF] at h
  simp only [Bool.and_eq_true] at h
  rw [rnF, Bool.and_eq_true]
  exact ⟨ak6 v d h.1.2.1.1.2, ar4 r d h.2⟩
theorem ak6 : ∀ (v : List Tm) (d : Int), liL Rn d v = true → rnL v = true
 | [], d, h => rfl
 | t :: r, d, h => by
  rw [liL, Bool.and_eq_true] at h
  rw [rnL, Bool.and_eq_true]
  exact ⟨a2n t d h.1, ak6 r d h.2⟩
end
def ajp : Tm := .mk 5 0 0 [] false false false []
theorem uz {a b : Int} : dm a b = 0 ↔ a = 0 ∧ b = 0 := by unfold dm; split <;> omega
theorem ar5 (b : Bool) : flag b - flag false = 0 ↔ b = false := by cases b <;> decide
theorem a2o {t : Tm} (h : t.k = 5) : decide (jt t ajp = 0) = sc t := by
 obtain ⟨k, lo, hi, s, a, m, o, fs⟩ := t
 rw [agz]
 simp only [ajp, sc, uz, Tm.k, Tm.lo, Tm.hi, Tm.s, Tm.a, Tm.m, Tm.o, Tm.fs, ae1, abq, ar5] at h ⊢
 rw [Bool.eq_iff_iff]
 have hF : ln fs [] = 0 ↔ fs = [] := by
  cases fs with
  | nil => simp [ln]
  | cons f r => obtain ⟨n, v⟩ := f; simp [ln]
 simp [h, hF]
 constructor <;> intro hh <;> simp_all
theorem aym : ah ajp = [AV.int .i64 5, AV.int .i64 0, AV.int .i64 0, AV.str [], AV.bool false, AV.bool false, AV.bool false, AV.sl 2 []] := rfl
def xp : Option Tm → List Tm → Bool
 | _, [] => true
 | none, t :: r => xp (some t) r
 | some p, t :: r => decide (jt p t < 0) && xp (some t) r
theorem aid : ∀ (r : List Tm) (t : Tm), y9 (t :: r) = xp (some t) r
 | [], t => rfl
 | u :: r, t => by rw [y9, xp, aid r u]
theorem ayn : ∀ v : List Tm, y9 v = xp none v
 | [] => rfl
 | t :: r => by rw [xp, aid]
def yr (v : List Tm) (i : Nat) : Option Tm := if i = 0 then none else v[i - 1]?
theorem aph {v : List Tm} {i : Nat} {t : Tm} (h : v[i]? = some t) : yr v (i + 1) = some t := by
 unfold yr
 rw [if_neg (by omega), Nat.add_sub_cancel, h]
def ag4 (v : List Tm) (i k : Nat) : Bool := decide (i = k) || (match v[i]?, v[k]? with | some t, some u => !oh t u | _, _ => true)
theorem ayo (v : List Tm) : ad1 v = (List.range v.length).all fun i => (List.range v.length).all fun k => ag4 v i k := rfl
theorem afh {n k : Nat} (h : k < n) : (List.range n).drop k = k :: (List.range n).drop (k + 1) := by
 rw [bc (l := List.range n) (i := k) (by rw [List.length_range]; exact h), List.getElem_range]
theorem a2p (R : Bs → Bool) (D : Int) (t : Tm) : liT R D t = if t.k = 5 then sc t else if t.k = 4 then uc R t && liF R (D - 1) t.fs else ji t := by cases t; rw [liT]; rfl
theorem abz (R : Bs → Bool) (t : Tm) : okT R t = if t.k = 5 then sc t else if t.k = 4 then uc R t && okF R t.fs else ji t := by cases t; rw [okT]; rfl
theorem ave (R : Bs → Bool) (t : Tm) : uc R t = (decide (t.lo = 0 ∧ t.hi = 0 ∧ t.s = []) && !t.a && !t.m && decide (t.fs.length ≤ 32) && ij R none t.fs) := by cases t; rw [uc]; rfl
theorem avf (R : Bs → Bool) (D : Int) (f : Fd) (r : List Fd) : liF R D (f :: r) = (!f.v.isEmpty && liV R D f.v && liF R D r) := by cases f; rw [liF]; rfl
theorem aat (R : Bs → Bool) (f : Fd) (r : List Fd) : okF R (f :: r) = (!f.v.isEmpty && okV R f.v && okF R r) := by cases f; rw [okF]; rfl
theorem avg {β : Type} (v : List β) : decide ((v.length : Int) = 0) = v.isEmpty := by cases v <;> simp <;> omega
theorem a5z (a b : Int) (s : Bs) : decide (a = 0 ∧ b = 0 ∧ s = []) = (decide (a = 0) && decide (b = 0) && decide (s = [])) := by rw [Bool.eq_iff_iff]; simp [and_assoc]
theorem aw6 (v : List Tm) (i : Nat) (t : Tm) (ht : v[i]? = some t) (hl : v.length ≤ 1073741824) (h : ∀ u ∈ v, dy (.agg 8 (ah t)) (.agg 8 (ah u)) = some (.bool (oh t u)))
  (X : Option AV) (next : bp.l1 (.boxv 1 [.sl 8 (ak v)] []) (.sl 8 (ak v)) (.int .i64 (v.length : Int)) (.int .i64 ((i + 1 : Nat) : Int)) = X) :
  ∀ (d k : Nat), k + d = v.length → bp.l2 (.boxv 1 [.sl 8 (ak v)] []) (.int .i64 (i : Int)) (.boxv 8 (ah t) []) (.sl 8 (ak v)) (.int .i64 (v.length : Int)) (.int .i64 (i : Int)) (.sl 8 (ak v)) (.int .i64 (v.length : Int)) (.int .i64 (k : Int)) = if ((List.range v.length).drop k).all (fun k => ag4 v i k) = true then X else some (.bool false)
 | 0, k, hk => by
  have hi : i < v.length := (List.getElem?_eq_some_iff.1 ht).1
  rw [bp.ac7, decide_eq_false (by omega), ifF, bf (by omega), next, bw (by rw [List.length_range]; omega)]; rfl
 | d + 1, k, hk => by
  have h1' : k < v.length := by omega
  have e1 : v[k]? = some v[k] := List.getElem?_eq_getElem h1'
  have ih := aw6 v i t ht hl h X next d (k + 1) (by omega)
  rw [bp.ac7, decide_eq_true (by omega), ifT, afh h1', List.all_cons]
  simp only [ay (jc e1), h _ (List.getElem_mem h1'), ad, en, j8]
  rw [bf (by omega), ih]
  have hq : ag4 v i k = (decide (i = k) || !oh t v[k]) := by unfold ag4; rw [ht, e1]
  have hc : decide ((i : Int) = (k : Int)) = decide (i = k) := by rw [Bool.eq_iff_iff]; simp <;> omega
  rw [hq, hc]
  cases decide (i = k) <;> cases oh t v[k] <;> simp [ifT, ifF]
theorem aw7 (v : List Tm) (hl : v.length ≤ 1073741824) (h : ∀ t ∈ v, ∀ u ∈ v, dy (.agg 8 (ah t)) (.agg 8 (ah u)) = some (.bool (oh t u))) :
  ∀ (d i : Nat), i + d = v.length → bp.l1 (.boxv 1 [.sl 8 (ak v)] []) (.sl 8 (ak v)) (.int .i64 (v.length : Int)) (.int .i64 (i : Int)) = some (.bool (((List.range v.length).drop i).all fun i => (List.range v.length).all fun k => ag4 v i k))
 | 0, i, hi => by
  rw [bp.ib, decide_eq_false (by omega), ifF, bw (by rw [List.length_range]; omega)]; rfl
 | d + 1, i, hi => by
  have h1' : i < v.length := by omega
  have e1 : v[i]? = some v[i] := List.getElem?_eq_getElem h1'
  have h2 := aw6 v i v[i] e1 hl (h _ (List.getElem_mem h1')) _ (aw7 v hl h d (i + 1) (by omega)) v.length 0 (by omega)
  rw [e00, List.drop_zero] at h2
  rw [bp.ib, decide_eq_true (by omega), ifT, afh h1', List.all_cons]
  simp only [ay (jc e1), v0, jr, di]
  rw [h2]
  cases (List.range v.length).all fun k => ag4 v i k <;> simp
theorem aw8 (v : List Tm) (D : Int) (hl : szV v ≤ 1073741824) (h : ∀ t ∈ v, ev (.agg 8 (ah t)) (.int .i64 D) = some (.bool (liT Rn D t)))
  (X : Option AV) (next : bp.l1 (.boxv 1 [.sl 8 (ak v)] []) (.sl 8 (ak v)) (.int .i64 (v.length : Int)) (.int .i64 0) = X) :
  ∀ (d i : Nat), i + d = v.length → bp.l0 (.int .i64 D) (.boxv 1 [.sl 8 (ak v)] []) (.sl 8 (ak v)) (.int .i64 (v.length : Int)) (.int .i64 (i : Int)) = if (liL Rn D (v.drop i) && xp (yr v i) (v.drop i)) = true then X else some (.bool false)
 | 0, i, hi => by
  rw [bp.ar, decide_eq_false (by omega), ifF]
  simp only [v0, jr, di]
  rw [next, bw (by omega), liL]; cases yr v i <;> simp [xp]
 | d + 1, i, hi => by
  have h1' : i < v.length := by omega
  have e1 : v[i]? = some v[i] := List.getElem?_eq_getElem h1'
  have hlen := fx v
  have ih := aw8 v D hl h X next d (i + 1) (by omega)
  rw [aph e1] at ih
  rw [bp.ar, decide_eq_true (by omega), ifT, bc h1', liL]
  simp only [ay (jc e1), h _ (List.getElem_mem h1'), ad, en]
  rw [bf (by omega), ih]
  by_cases hi0 : i = 0
  ·subst hi0
   rw [e00, decide_eq_false (by omega), ifF]
   simp only [orK, ad]
   have : yr v 0 = none := rfl
   rw [this, xp]
   cases liT Rn D v[0] <;> simp [ifT, ifF]
  ·have e2 : v[i - 1]? = some v[i - 1] := List.getElem?_eq_getElem (by omega)
   have hs := pn e2
   rw [decide_eq_true (by omega), ifT, tm (by omega) (by omega)]
   simp only [v0, jr, ay (jc e2), akw (t := v[i - 1]) (u := v[i]) (by omega), ad, dn, orK]
   have : yr v i = some v[i - 1] := by unfold yr; rw [if_neg hi0, e2]
   rw [this, xp]
   have hc : decide (0 ≤ jt v[i - 1] v[i]) = !decide (jt v[i - 1] v[i] < 0) := by rw [Bool.eq_iff_iff]; simp
   rw [hc]
   cases liT Rn D v[i] <;> cases decide (jt v[i - 1] v[i] < 0) <;> simp [ifT, ifF]
theorem ar6 (v : List Tm) (D : Int) (hl : szV v ≤ 1073741824) (hD : 1 ≤ D → ∀ t ∈ v, ev (.agg 8 (ah t)) (.int .i64 D) = some (.bool (liT Rn D t))) :
  bp (.agg 1 [.sl 8 (ak v)]) (.int .i64 D) = some (.bool (liV Rn D v)) := by
 rw [bp.ae]
 simp only [v0, jr, di, orK, ad]
 have hlen := fx v
 unfold liV
 by_cases h1 : D < 1
 ·rw [decide_eq_true h1, Bool.true_or, ifT, decide_eq_false (p := 1 ≤ D) (by omega)]; simp
 by_cases h2 : 512 < v.length
 ·rw [decide_eq_true (p := (512 : Int) < (v.length : Int)) (by omega), Bool.or_true, ifT, decide_eq_false (p := v.length ≤ 512) (by omega)]; simp
 rw [decide_eq_false h1, decide_eq_false (p := (512 : Int) < (v.length : Int)) (by omega), Bool.or_self, ifF, decide_eq_true (p := 1 ≤ D) (by omega), decide_eq_true (p := v.length ≤ 512) (by omega), Bool.true_and, Bool.true_and]
 have h0 := aw8 v D hl (hD (by omega)) _ rfl v.length 0 (by omega)
 rw [e00, List.drop_zero] at h0
 rw [h0, ayn]
 have : yr v 0 = none := rfl
 rw [this]
 cases hli : liL Rn D v with
 | false => simp
 | true =>
  have rn := ak6 v D hli
  have hb := aw7 v (by omega) (fun t ht u hu => (an5 1073741824 (Nat.le_refl _)).1 t u (by have := oe ht; omega) (by have := oe hu; omega) (zr v rn t ht) (zr v rn u hu)) v.length 0 (by omega)
  rw [e00, List.drop_zero, ← ayo] at hb
  rw [hb]
  cases xp none v <;> simp
theorem ak7 (fs : List Fd) (D : Int) (hD : -1000 ≤ D ∧ D ≤ 1000) (hl : fs.length ≤ 1073741824) (h : ∀ f ∈ fs, bp (.agg 1 [.sl 8 (ak f.v)]) (.int .i64 (D - 1)) = some (.bool (liV Rn (D - 1) f.v))) :
  ∀ (d i : Nat), i + d = fs.length → ev.l0 (.int .i64 D) (.sl 2 (cb fs)) (.int .i64 (fs.length : Int)) (.int .i64 (i : Int)) = some (.bool (liF Rn (D - 1) (fs.drop i)))
 | 0, i, hi => by rw [ev.ar, decide_eq_false (by omega), ifF, bw (by omega)]; rfl
 | d + 1, i, hi => by
  have h1' : i < fs.length := by omega
  have e1 : fs[i]? = some fs[i] := List.getElem?_eq_getElem h1'
  have hc := h _ (List.getElem_mem h1')
  rw [ev.ar, decide_eq_true (by omega), ifT, bc h1']
  simp only [ay (fo e1), h1, jr, di, frz]
  rw [xn (by omega), hc, bf (by omega), ak7 fs D hD hl h d (i + 1) (by omega), avf]
  simp only [ad, en, orK, avg]
  cases fs[i].v.isEmpty <;> cases liV Rn (D - 1) fs[i].v <;> simp [ifT, ifF]
theorem avh (t : Tm) : xm (.agg 8 (ah t)) = some (.bool (decide (t.lo = 0 ∧ t.hi = 0 ∧ t.s = []) && !t.a && !t.m)) := by
 rw [xm.ae]
 simp only [g1, g2, g3, g4, g5, dn, gx, en, j8, ad]
 rw [a5z]
theorem aie (t : Tm) (D : Int) (hD : 1 ≤ D ∧ D ≤ 1000) (hl : szT t ≤ 1073741824) (h : ∀ f ∈ t.fs, bp (.agg 1 [.sl 8 (ak f.v)]) (.int .i64 (D - 1)) = some (.bool (liV Rn (D - 1) f.v))) :
  ev (.agg 8 (ah t)) (.int .i64 D) = some (.bool (liT Rn D t)) := by
 rw [fq] at hl
 have hlen := ie t.fs
 have hf := ak7 t.fs D (by omega) (by omega) h t.fs.length 0 (by omega)
 rw [e00, List.drop_zero] at hf
 rw [ev.ae]
 simp only [g0, g7, dn, lx, avh, ed, ayh t.fs (by omega), tk, ad, en, orK, hf]
 have ha : o8 (.agg 8 (ah t)) = some (.bool (decide (jt t ajp = 0))) := by
  rw [o8.ae, ← aym, akw (by rw [fq]; omega)]; rfl
 rw [ha]
 rw [a2p]
 by_cases h5 : t.k = 5
 ·rw [decide_eq_true h5, ifT, if_pos h5, a2o h5]; rfl
 rw [decide_eq_false h5, ifF, if_neg h5]
 by_cases h4 : t.k = 4
 ·rw [decide_eq_true h4, ifT, if_pos h4, ave]
  have hc : decide ((32 : Int) < (t.fs.length : Int)) = !decide (t.fs.length ≤ 32) := by rw [Bool.eq_iff_iff]; simp <;> omega
  rw [hc]
  cases decide (t.lo = 0 ∧ t.hi = 0 ∧ t.s = []) <;> cases t.a <;> cases t.m <;> cases decide (t.fs.length ≤ 32) <;> cases ij Nam.ek none t.fs <;> cases liF Rn (D - 1) t.fs <;> rfl
 ·rw [decide_eq_false h4, ifF, if_neg h4]
theorem ak8 : ∀ (n : Nat), n ≤ 1073741824 → ∀ (v : List Tm) (D : Int), D ≤ 1000 → szV v ≤ n → bp (.agg 1 [.sl 8 (ak v)]) (.int .i64 D) = some (.bool (liV Rn D v))
 | n, hn, v, D, hD, hv => ar6 v D (by omega) fun h1 t ht => aie t D ⟨h1, hD⟩ (by have := oe ht; omega) fun f hf => ak8 n hn f.v (D - 1) (by omega) (by have := qb ht hf; omega)
termination_by n hn v => szV v
decreasing_by have := qb ht hf; omega
theorem ab0 (v : List Tm) (hl : szV v ≤ 1073741824) : ri (.agg 1 [.sl 8 (ak v)]) = some (.bool (okV Rn v)) := by
 rw [ri.ae, ak8 1073741824 (Nat.le_refl _) v 16 (by omega) hl, ak1 1073741824 v hl (Nat.le_refl _)]
 simp only [ad, en, dn, j8]
 rw [← a4c]
 congr 3
 rw [Bool.eq_iff_iff]; simp <;> omega
theorem a2q (w : Bool) (t : Tm) : seT w t = (decide (t.k ≠ 5) && (if t.k = 4 then seF w t.fs else single t || (w && t.m))) := by cases t; rw [seT]; rfl
theorem avi (w : Bool) (f : Fd) (r : List Fd) : seF w (f :: r) = (seL w f.v && seF w r) := by cases f; rw [seF]; rfl
theorem api {α : Type} (t : Tm) (r : List Tm) (k : List AV → Option α) : idx (ak (t :: r)) 0 k = k (ah t) := ay (j := 0) (l := ak (t :: r)) (x := ah t) (by rw [je]; rfl) k
theorem ag5 : ∀ (v : List Tm), okL Rn v = true → ∀ t ∈ v, okT Rn t = true
 | [], h, t, ht => by cases ht
 | x :: r, h, t, ht => by
  rw [okL, Bool.and_eq_true] at h
  rcases List.mem_cons.1 ht with rfl | ht
  ·exact h.1
  ·exact ag5 r h.2 t ht
theorem ag6 : ∀ (fs : List Fd), okF Rn fs = true → ∀ f ∈ fs, okV Rn f.v = true
 | [], h, f, hf => by cases hf
 | x :: r, h, f, hf => by
  rw [aat] at h
  simp only [Bool.and_eq_true] at h
  rcases List.mem_cons.1 hf with rfl | hf
  ·exact h.1.2
  ·exact ag6 r h.2 f hf
theorem aau {v : List Tm} (h : okV Rn v = true) : okL Rn v = true := by
 unfold okV at h
 simp only [Bool.and_eq_true] at h
 exact h.1.1.2
theorem aw9 {α : Type} (a b : AV) (k : AV → AV → Option α) : lg (.tup [a, b]) k = k a b := rfl
theorem an6 (w : Bool) : ∀ fs : List Fd, seF w fs = fs.all fun f => seL w f.v
 | [] => rfl
 | f :: r => by rw [avi, List.all_cons, an6 w r]
theorem ar7 (v : List Tm) (hl : szV v ≤ 1073741824) (hok : okL Rn v = true) (h : ∀ t ∈ v, ∀ f ∈ t.fs, okV Rn f.v = true → o7 (.agg 1 [.sl 8 (ak f.v)]) (.fn 155 []) = some (.bool (seL false f.v))) :
  o7 (.agg 1 [.sl 8 (ak v)]) (.fn 155 []) = some (.bool (seL false v)) := by
 rw [o7.ae, ky.ae]
 simp only [v0, jr, di]
 match v with
 | [] => rfl
 | t :: u :: r =>
  rw [decide_eq_false (by simp <;> omega), ifF, decide_eq_true (by simp <;> omega)]; rfl
 | [t] =>
  have hs := oe (v := [t]) (List.mem_cons_self ..)
  rw [fq] at hs
  have hlen := ie t.fs
  have hT := ag5 _ hok t (List.mem_cons_self ..)
  have e1 : decide ((([t] : List Tm).length : Int) = 0) = false := by simp
  have e2 : decide ((1 : Int) < (([t] : List Tm).length : Int)) = false := by simp
  rw [e1, ifF, e2, ifF]
  simp only [api, g0, dn, ad]
  rw [seL, a2q]
  rw [abz] at hT
  by_cases h5 : t.k = 5
  ·rw [decide_eq_true h5, ifT]
   simp [aw9, ape, dn, ad, ifT, h5]
  rw [if_neg h5] at hT
  rw [decide_eq_false h5, ifF, decide_eq_true (p := t.k ≠ 5) h5, Bool.true_and]
  simp only [aw9, ape, dn, ad, g0, g7, lx]
  simp only [decide_true, Bool.not_true, ifF]
  by_cases h4 : t.k = 4
  ·rw [if_pos h4, Bool.and_eq_true] at hT
   rw [decide_eq_true h4, Bool.not_true, ifF, if_pos h4]
   have := an3 t.fs 197 [AV.eptr 1 [AV.fn 155 []] 0] (fun f => !seL false f.v) (by omega) (fun f hf => by
    have : vx (.agg 2 (jg f)) (.eptr 1 [AV.fn 155 []] 0) = some (.bool (!seL false f.v)) := by
     rw [vx.ae]
     simp only [h1, frz]
     rw [h t (List.mem_cons_self ..) f hf (ag6 _ hT.2 f hf)]; rfl
    exact this)
   rw [this]
   simp only [ad, en]
   rw [an4, Bool.not_not, an6]
  ·rw [if_neg h4] at hT
   rw [decide_eq_false h4, Bool.not_false, ifT, if_neg h4]
   have hr : ag S 155 ([AV.agg 8 (ah t)] ++ []) = some (.bool (single t)) := by
    have : ud (.agg 8 (ah t)) = some (.bool (single t)) := by
     rw [ud.ae]
     simp only [g5, en, tk, hT, aks, ad, ifT, orK]
    exact this
   rw [hr]
   simp only [ad, en]
   cases t.m <;> cases single t <;> rfl
theorem aif : ∀ (v : List Tm), szV v ≤ 1073741824 → okL Rn v = true → o7 (.agg 1 [.sl 8 (ak v)]) (.fn 155 []) = some (.bool (seL false v))
 | v, hv, hok => ar7 v hv hok fun t ht f hf ho => aif f.v (by have := qb ht hf; omega) (aau ho)
termination_by v => szV v
decreasing_by have := qb ht hf; omega
theorem am7 (v : List Tm) (hv : szV v ≤ 1073741824) : o6 (.agg 1 [.sl 8 (ak v)]) = some (.bool (okV Rn v && seL false v)) := by
 rw [o6.ae, ab0 v hv]
 cases h : okV Rn v with
 | false => rfl
 | true =>
  rw [aif v hv (aau h)]
  rfl
theorem ar8 (v : List Tm) (n j : Nat) (t : Tm) (hj : v[j]? = some t) (hl : v.length ≤ 1073741824) (hb : szF t.fs ≤ 1073741824)
  (h : ∀ f ∈ t.fs, ct (.agg 1 [.sl 8 (ak f.v)]) = some (.int .i64 (depth f.v : Nat)))
  (next : ∀ m : Nat, m = max n (dpF t.fs) → ct.l0 (.int .i64 (m : Int)) (.sl 8 (ak v)) (.int .i64 (v.length : Int)) (.int .i64 ((j + 1 : Nat) : Int)) = some (.int .i64 ((1 + max m (dpV (v.drop (j + 1))) : Nat) : Int))) :
  ∀ (d i m : Nat), i + d = t.fs.length → max m (dpF (t.fs.drop i)) = max n (dpF t.fs) → ct.l1 (.int .i64 (m : Int)) (.sl 8 (ak v)) (.int .i64 (v.length : Int)) (.int .i64 (j : Int)) (.sl 2 (cb t.fs)) (.int .i64 (t.fs.length : Int)) (.int .i64 (i : Int)) = some (.int .i64 ((1 + max n (max (dpF t.fs) (dpV (v.drop (j + 1)))) : Nat) : Int))
 | 0, i, m, hi, hm => by
  rw [ct.ib, decide_eq_false (by omega), ifF]
  rw [bw (by omega), dpF] at hm
  have hj' : j < v.length := (List.getElem?_eq_some_iff.1 hj).1
  rw [bf (by omega), next m (by omega)]
  congr 3
  omega
 | d + 1, i, m, hi, hm => by
  have h1' : i < t.fs.length := by omega
  have e1 : t.fs[i]? = some t.fs[i] := List.getElem?_eq_getElem h1'
  have hc := h _ (List.getElem_mem h1')
  have hl := ie t.fs
  have hk := au9 e1
  rw [ct.ib, decide_eq_true (by omega), ifT, ay (fo e1), h1]
  simp only [frz, hc, ad, dn]
  rw [bf (by omega)]
  have hd : depth t.fs[i].v = dpV t.fs[i].v + 1 := rfl
  have hmx : max (m : Int) ((depth t.fs[i].v : Nat) : Int) = ((max m (depth t.fs[i].v) : Nat) : Int) := by omega
  rw [hmx, ar8 v n j t hj ‹_› hb h next d (i + 1) _ (by omega) (by omega)]
theorem ad5 (v : List Tm) (hl : szV v ≤ 1073741824) (h : ∀ t ∈ v, ∀ f ∈ t.fs, ct (.agg 1 [.sl 8 (ak f.v)]) = some (.int .i64 (depth f.v : Nat))) :
  ∀ (d i n : Nat), i + d = v.length → max n (dpV (v.drop i)) ≤ dpV v → ct.l0 (.int .i64 (n : Int)) (.sl 8 (ak v)) (.int .i64 (v.length : Int)) (.int .i64 (i : Int)) = some (.int .i64 ((1 + max n (dpV (v.drop i)) : Nat) : Int))
 | 0, i, n, hi, hn => by
  have hw := a5x v
  rw [ct.ar]
  rw [decide_eq_false (by omega), ifF, bw (by omega), dpV, bf (by omega), Nat.max_zero, Nat.add_comm]
 | d + 1, i, n, hi, hn => by
  have h1' : i < v.length := by omega
  have e1 : v[i]? = some v[i] := List.getElem?_eq_getElem h1'
  have hlen := fx v
  have hs := pn e1
  rw [fq] at hs
  have hk := ava e1
  rw [ct.ar]
  rw [decide_eq_true (by omega), ifT]
  simp only [ay (jc e1), g7, lx, ed]
  have := ar8 v n i v[i] e1 (by omega) (by omega) (h _ (List.getElem_mem h1')) (fun m hm => ad5 v hl h d (i + 1) m (by omega) (by omega)) v[i].fs.length 0 n (by omega) (by rw [List.drop_zero])
  rw [e00] at this
  rw [this, hk]
theorem ar9 : ∀ (n : Nat) (v : List Tm), szV v ≤ n → n ≤ 1073741824 → ct (.agg 1 [.sl 8 (ak v)]) = some (.int .i64 (depth v : Nat))
 | 0, v, h, hn => by
  have hl := fx v
  obtain rfl : v = [] := List.eq_nil_of_length_eq_zero (by omega)
  rw [ct.ae]
  simp only [v0, jr, di]
  exact ad5 [] (by simp [szV]) (fun t ht => by cases ht) 0 0 0 rfl (by simp)
 | n + 1, v, h, hn => by
  have := ad5 v (by omega) (fun t ht f hf => ar9 n f.v (by have := qb ht hf; omega) (by omega)) v.length 0 0 (by omega) (by simp)
  rw [ct.ae]
  simp only [v0, jr, di]
  rw [List.drop_zero, Nat.zero_max, Nat.add_comm, e00] at this
  rw [this]; rfl
end Go.Proofs.YtmdimhcjogjcgaaGreatDoor.Lat
