/- 'Below': the program and the document come to 'und'. -/
import Derived.Test.YtmdimhcjogjcgaaGreatDoorGaq
set_option linter.all false
noncomputable section
namespace Go.Proofs.YtmdimhcjogjcgaaGreatDoor.Lat
open Go.Proofs.YtmdimhcjogjcgaaGreatDoor.Abs
mutual
def rnT : Tm → Bool
 | .mk k _ _ _ _ _ _ fs => if k = 4 then jc Rn none fs && rnF fs else true
def rnF : List Fd → Bool
 | [] => true
 | .mk _ v :: r => rnL v && rnF r
def rnL : List Tm → Bool
 | [] => true
 | t :: r => rnT t && rnL r
end
theorem an7 : ∀ (fs : List Fd), rnF fs = true → ∀ f ∈ fs, rnL f.v = true
 | [], h, f, hf => by cases hf
 | .mk n v :: r, h, f, hf => by
  rw [rnF, Bool.and_eq_true] at h
  rcases List.mem_cons.1 hf with rfl | hf
  ·exact h.1
  ·exact an7 r h.2 f hf
theorem afe : ∀ (v : List Tm), rnL v = true → ∀ t ∈ v, rnT t = true
 | [], h, t, ht => by cases ht
 | x :: r, h, t, ht => by
  rw [rnL, Bool.and_eq_true] at h
  rcases List.mem_cons.1 ht with rfl | ht
  ·exact h.1
  ·exact afe r h.2 t ht
theorem a2j {t : Tm} (h : rnT t = true) (hk : t.k = 4) : jc Rn none t.fs = true ∧ rnF t.fs = true := by
 obtain ⟨k, lo, hi, s, a, m, o, fs⟩ := t
 simp only [Tm.k] at hk
 rw [rnT, if_pos hk, Bool.and_eq_true] at h
 exact h
theorem aw7 (a b : Tm) : mw a b = (decide (b.k = 5) || (if a.k ≠ 4 ∨ b.k ≠ 4 then ae9 a b else (!a.o || b.o) && (b.o || hasAll a.fs b.fs) && zj a.fs b.fs)) := by cases b; rw [mw]; rfl
theorem apj (a : List Fd) (f : Fd) (r : List Fd) : zj a (f :: r) = ((match findF a f.n with | some w => va w f.v | none => false) && zj a r) := by cases f; rw [zj]; rfl
theorem aki (t : Tm) : ∀ v : List Tm, asb t v = v.any fun u => mw t u
 | [] => rfl
 | u :: r => by rw [asb, aki t r, List.any_cons]
theorem atk {α : Type} {fs : List Fd} {j : Nat} {f : Fd} (h : fs[j]? = some f) (k : List AV → Option α) : idx (cq fs) (j : Int) k = k (kg f) := an (dx h) k
theorem aw8 {β : Type} (l : List β) (q : β → Bool) : (l.any fun x => !q x) = !(l.all q) := by
 induction l with
 | nil => rfl
 | cons x r ih => rw [List.any_cons, List.all_cons, ih]; cases q x <;> rfl
theorem al7 {fs : List Fd} {f : Fd} (h : f ∈ fs) : 1 + szV f.v ≤ szF fs := by
 obtain ⟨i, hi⟩ := List.getElem?_of_mem h
 exact pr hi
theorem ll {v : List Tm} {t : Tm} (h : t ∈ v) : szT t ≤ szV v := by
 obtain ⟨i, hi⟩ := List.getElem?_of_mem h
 exact se hi
theorem ajr (a : Tm) (fs : List Fd) (ha : jc Rn none a.fs = true) (hla : a.fs.length ≤ 1073741824) (hl : fs.length ≤ 1073741824)
  (h : ∀ f ∈ a.fs, ∀ g ∈ fs, j7 (.agg 1 [.sl 8 (al f.v)]) (.agg 1 [.sl 8 (al g.v)]) = some (.bool (va f.v g.v))) :
  ∀ (d i : Nat), i + d = fs.length → gx.l0 (.boxv 8 (ao a) []) (.sl 2 (cq fs)) (.int .i64 (fs.length : Int)) (.int .i64 (i : Int)) = some (.bool (zj a.fs (fs.drop i)))
 | 0, i, hi => by rw [gx.ai, decide_eq_false (by omega), ifF, bc (by omega)]; rw [zj]
 | d + 1, i, hi => by
  have h1' : i < fs.length := by omega
  have e1 : fs[i]? = some fs[i] := List.getElem?_eq_getElem h1'
  rw [gx.ai, decide_eq_true (by omega), ifT, au h1', apj]
  simp only [an (dx e1), g7, jk, h0, cf]
  obtain ⟨k, hk, hF⟩ := ath a.fs fs[i].n none ha hla
  rw [hk]
  simp only [ab, bf]
  rcases hF with ⟨rfl, hn⟩ | ⟨j, f, rfl, hf, he, hn⟩
  ·rw [decide_eq_true (by omega), ifT, hn]; rfl
  ·rw [decide_eq_false (by omega), ifF, hn]
   simp only [atk hf, h1, frz]
   rw [h f (List.mem_of_getElem? hf) _ (List.getElem_mem h1')]
   simp only [ab, bq]
   rw [aj (by omega), ajr a fs ha hla hl h d (i + 1) (by omega)]
   cases va f.v fs[i].v <;> rfl
theorem a2k (a b : Tm) (hb : jc Rn none b.fs = true) (hla : a.fs.length ≤ 1073741824) (hl : b.fs.length ≤ 1073741824) : aay (.agg 8 (ao b)) (.agg 8 (ao a)) = some (.bool (!b.o && !hasAll a.fs b.fs)) := by
 rw [aay.ae]
 have := aw6 a.fs 260 [AV.eptr 8 (ao b) 0] (fun f => !(findF b.fs f.n).isSome) hla (fun f hf => by
  have : aaj (.agg 2 (kg f)) (.eptr 8 (ao b) 0) = some (.bool (!(findF b.fs f.n).isSome)) := by
   rw [aaj.ae]
   simp only [g7, jk, h0, cf]
   obtain ⟨k, hk, hF⟩ := ath b.fs f.n none hb hl
   rw [hk]
   simp only [ab, bf]
   rcases hF with ⟨rfl, hn⟩ | ⟨j, g, rfl, hg, he, hn⟩
   ·rw [hn]; rfl
   ·rw [hn, decide_eq_false (by omega)]; rfl
  exact this)
 simp only [g6, g7, bq, jk, this, ab, kq]
 congr 3
 exact aw8 _ _
theorem bbr {a b : Tm} (ha : rnT a = true) (hb : rnT b = true) (hla : a.fs.length ≤ 1073741824) (hl : b.fs.length ≤ 1073741824)
  (h : rnF a.fs = true → rnF b.fs = true → ∀ f ∈ a.fs, ∀ g ∈ b.fs, j7 (.agg 1 [.sl 8 (al f.v)]) (.agg 1 [.sl 8 (al g.v)]) = some (.bool (va f.v g.v))) :
  gx (.agg 8 (ao a)) (.agg 8 (ao b)) = some (.bool (mw a b)) := by
 rw [gx.ae, aw7]
 simp only [g0, g6, g7, bf, bq, jk, a1z, ab, orK, kq]
 by_cases h5 : b.k = 5
 ·simp [h5, ifT]
 rw [decide_eq_false h5, ifF, Bool.false_or]
 by_cases h4 : a.k ≠ 4 ∨ b.k ≠ 4
 ·rw [if_pos h4]
  have : (!decide (a.k = b.k) || !decide (a.k = 4)) = true := by
   simp
   rcases Classical.em (a.k = b.k) with he | he
   ·right; intro h; rcases h4 with h' | h' <;> omega
   ·left; exact he
  rw [this, ifT]
 ·rw [if_neg h4]
  have hk : a.k = 4 ∧ b.k = 4 := by omega
  obtain ⟨ka, kb⟩ := hk
  obtain ⟨ra, na⟩ := a2j ha ka
  obtain ⟨rb, nb⟩ := a2j hb kb
  have hl0 := ajr a b.fs ra hla hl (h na nb) b.fs.length 0 (by omega)
  rw [e00, List.drop_zero] at hl0
  simp only [ka, kb, decide_true, Bool.not_true, Bool.or_self, ifF, a2k a b rb hla hl, ab, bq, orK, cp, hl0]
  cases a.o <;> cases b.o <;> cases hasAll a.fs b.fs <;> cases zj a.fs b.fs <;> rfl
theorem apk (v w : List Tm) (hlv : v.length ≤ 1073741824) (hlw : w.length ≤ 1073741824) (h : ∀ t ∈ v, ∀ u ∈ w, gx (.agg 8 (ao t)) (.agg 8 (ao u)) = some (.bool (mw t u))) :
  ∀ (d i : Nat), i + d = v.length → j7.l0 (.boxv 1 [.sl 8 (al w)] []) (.sl 8 (al v)) (.int .i64 (v.length : Int)) (.int .i64 (i : Int)) = some (.bool (va (v.drop i) w))
 | 0, i, hi => by rw [j7.ai, decide_eq_false (by omega), ifF, bc (by omega)]; rfl
 | d + 1, i, hi => by
  have h1' : i < v.length := by omega
  have e1 : v[i]? = some v[i] := List.getElem?_eq_getElem h1'
  have := bbq w 264 [AV.eptr 8 (ao v[i]) 0] (fun u => mw v[i] u) hlw (fun u hu => by
   have : aak (.agg 8 (ao u)) (.eptr 8 (ao v[i]) 0) = some (.bool (mw v[i] u)) := by
    rw [aak.ae, h _ (List.getElem_mem h1') u hu]; rfl
   exact this)
  rw [j7.ai, decide_eq_true (by omega), ifT, au h1']
  simp only [an (gm e1), v0, ic, this, ab, bq]
  rw [aj (by omega), apk v w hlv hlw h d (i + 1) (by omega)]
  unfold va
  rw [List.all_cons, aki]
  cases w.any fun u => mw v[i] u <;> rfl
theorem apl {v w : List Tm} (hlv : v.length ≤ 1073741824) (hlw : w.length ≤ 1073741824) (h : ∀ t ∈ v, ∀ u ∈ w, gx (.agg 8 (ao t)) (.agg 8 (ao u)) = some (.bool (mw t u))) :
  j7 (.agg 1 [.sl 8 (al v)]) (.agg 1 [.sl 8 (al w)]) = some (.bool (va v w)) := by
 have := apk v w hlv hlw h v.length 0 (by omega)
 rw [j7.ae]
 simp only [v0, ic, ct]
 rw [e00, List.drop_zero] at this
 exact this
theorem aw9 : ∀ (n : Nat), n ≤ 1073741824 →
  (∀ a b : Tm, szT a ≤ 1073741824 → szT b ≤ n → rnT a = true → rnT b = true → gx (.agg 8 (ao a)) (.agg 8 (ao b)) = some (.bool (mw a b))) ∧
  (∀ v w : List Tm, szV v ≤ 1073741824 → szV w ≤ n → rnL v = true → rnL w = true → j7 (.agg 1 [.sl 8 (al v)]) (.agg 1 [.sl 8 (al w)]) = some (.bool (va v w)))
 | 0, _ => by
  refine ⟨fun a b ha hb => ?_, fun v w hv hw _ _ => ?_⟩
  ·rw [fw] at hb; omega
  ·have hl := fh w
   have hl' := fh v
   obtain rfl : w = [] := List.eq_nil_of_length_eq_zero (by omega)
   exact apl (by omega) (by simp) (fun t ht u hu => by cases hu)
 | n + 1, hn => by
  obtain ⟨hT, hV⟩ := aw9 n (by omega)
  have hT' : ∀ a b : Tm, szT a ≤ 1073741824 → szT b ≤ n + 1 → rnT a = true → rnT b = true → gx (.agg 8 (ao a)) (.agg 8 (ao b)) = some (.bool (mw a b)) := fun a b ha hb ra rb => by
   rw [fw] at ha hb
   have hla := gw a.fs
   have hlb := gw b.fs
   refine bbr ra rb (by omega) (by omega) fun na nb f hf g hg => hV f.v g.v ?_ ?_ (an7 _ na f hf) (an7 _ nb g hg)
   ·have := al7 hf; omega
   ·have := al7 hg; omega
  refine ⟨hT', fun v w hv hw rv rw' => ?_⟩
  have hl := fh w
  have hl' := fh v
  refine apl (by omega) (by omega) fun t ht u hu => hT' t u ?_ ?_ (afe _ rv t ht) (afe _ rw' u hu)
  ·have := ll ht; omega
  ·have := ll hu; omega
theorem ahq (a b : Tm) (hla : a.fs.length ≤ 1073741824) (hl : b.fs.length ≤ 1073741824)
  (h : ∀ f ∈ a.fs, ∀ g ∈ b.fs, dh (.agg 1 [.sl 8 (al f.v)]) (.agg 1 [.sl 8 (al g.v)]) = some (.bool (va f.v g.v))) :
  ∀ (d i : Nat), i + d = b.fs.length → dc.l1 (.boxv 8 (ao a) []) (.boxv 8 (ao b) []) (.int .i64 (i : Int)) = some (.bool (zj a.fs (b.fs.drop i)))
 | 0, i, hi => by
  rw [dc.en]
  simp only [g7, jk, cp]
  rw [decide_eq_false (by omega), ifF, bc (by omega)]; rw [zj]
 | d + 1, i, hi => by
  have h1' : i < b.fs.length := by omega
  have e1 : b.fs[i]? = some b.fs[i] := List.getElem?_eq_getElem h1'
  rw [dc.en, au h1', apj]
  simp only [g7, jk, cp, an (dx e1), h0, cf]
  rw [decide_eq_true (by omega), ifT]
  obtain ⟨k, hk, hF⟩ := atg a.fs b.fs[i].n hla
  rw [hk]
  simp only [ab, bf]
  rcases hF with ⟨rfl, hn⟩ | ⟨j, f, rfl, hf, he, hn⟩
  ·rw [decide_eq_true (by omega), ifT, hn]; rfl
  ·rw [decide_eq_false (by omega), ifF, hn]
   simp only [atk hf, h1]
   rw [h f (List.mem_of_getElem? hf) _ (List.getElem_mem h1')]
   simp only [ab, bq]
   rw [aj (by omega), ahq a b hla hl h d (i + 1) (by omega)]
   cases va f.v b.fs[i].v <;> rfl
theorem apm (a b : Tm) (hla : a.fs.length ≤ 1073741824) (hl : b.fs.length ≤ 1073741824)
  (h : ∀ f ∈ a.fs, ∀ g ∈ b.fs, dh (.agg 1 [.sl 8 (al f.v)]) (.agg 1 [.sl 8 (al g.v)]) = some (.bool (va f.v g.v))) :
  ∀ (d i : Nat), i + d = a.fs.length → dc.l0 (.boxv 8 (ao a) []) (.boxv 8 (ao b) []) (.int .i64 (i : Int)) = some (.bool ((b.o || hasAll (a.fs.drop i) b.fs) && zj a.fs b.fs))
 | 0, i, hi => by
  have hl1 := ahq a b hla hl h b.fs.length 0 (by omega)
  rw [e00, List.drop_zero] at hl1
  rw [dc.ai]
  simp only [g6, g7, jk, bq, cp, kq, ab, hl1]
  rw [decide_eq_false (by omega), Bool.false_and, ifF, bc (by omega)]
  unfold hasAll
  rw [List.all_nil, Bool.or_true, Bool.true_and]
 | d + 1, i, hi => by
  have h1' : i < a.fs.length := by omega
  have e1 : a.fs[i]? = some a.fs[i] := List.getElem?_eq_getElem h1'
  have hl1 := ahq a b hla hl h b.fs.length 0 (by omega)
  rw [e00, List.drop_zero] at hl1
  have ih := apm a b hla hl h d (i + 1) (by omega)
  rw [dc.ai, au h1']
  simp only [g6, g7, jk, bq, cp, kq, ab, hl1, an (dx e1), h0, cf]
  rw [decide_eq_true (by omega), Bool.true_and]
  obtain ⟨k, hk, hF⟩ := atg b.fs a.fs[i].n hl
  rw [hk, aj (by omega), ih]
  simp only [ab, bf]
  unfold hasAll
  rw [List.all_cons]
  rcases hF with ⟨rfl, hn⟩ | ⟨j, f, rfl, hf, he, hn⟩
  ·rw [decide_eq_true (by omega), ifT, hn]; cases b.o <;> rfl
  ·rw [decide_eq_false (by omega), ifF, hn]
   cases b.o <;> rfl
theorem bbs {a b : Tm} (hla : a.fs.length ≤ 1073741824) (hl : b.fs.length ≤ 1073741824)
  (h : ∀ f ∈ a.fs, ∀ g ∈ b.fs, dh (.agg 1 [.sl 8 (al f.v)]) (.agg 1 [.sl 8 (al g.v)]) = some (.bool (va f.v g.v))) :
  dc (.agg 8 (ao a)) (.agg 8 (ao b)) = some (.bool (mw a b)) := by
 have hl0 := apm a b hla hl h a.fs.length 0 (by omega)
 rw [e00, List.drop_zero] at hl0
 rw [dc.ae, aw7]
 simp only [g0, g6, bf, bq, a2a, ab, orK, kq, hl0]
 by_cases h5 : b.k = 5
 ·simp [h5, ifT]
 rw [decide_eq_false h5, ifF, Bool.false_or]
 by_cases h4 : a.k ≠ 4 ∨ b.k ≠ 4
 ·rw [if_pos h4]
  have : (!decide (a.k = 4) || !decide (b.k = 4)) = true := by simp; exact h4
  rw [this, ifT]
 ·rw [if_neg h4]
  have hk : a.k = 4 ∧ b.k = 4 := by omega
  obtain ⟨ka, kb⟩ := hk
  simp only [ka, kb, decide_true, Bool.not_true, Bool.or_self, ifF]
  cases a.o <;> cases b.o <;> cases hasAll a.fs b.fs <;> cases zj a.fs b.fs <;> rfl
theorem axa (v w : List Tm) (i : Nat) (t : Tm) (ht : v[i]? = some t) (hlw : w.length ≤ 1073741824) (h : ∀ u ∈ w, dc (.agg 8 (ao t)) (.agg 8 (ao u)) = some (.bool (mw t u)))
  (X : Option AV) (next : dh.l0 (.boxv 1 [.sl 8 (al v)] []) (.boxv 1 [.sl 8 (al w)] []) (.int .i64 (w64 ((i : Int) + 1))) = X) :
  ∀ (d k : Nat) (b : Bool), k + d = w.length → dh.l1 (.boxv 1 [.sl 8 (al v)] []) (.boxv 1 [.sl 8 (al w)] []) (.int .i64 (i : Int)) (.bool b) (.int .i64 (k : Int)) = if (b || (w.drop k).any fun u => mw t u) = true then X else some (.bool false)
 | 0, k, b, hk => by
  rw [dh.ac2]
  simp only [v0, ic, ct, kq, ab, next]
  rw [decide_eq_false (by omega), bc (by omega)]
  cases b <;> rfl
 | d + 1, k, b, hk => by
  have h1' : k < w.length := by omega
  have e1 : w[k]? = some w[k] := List.getElem?_eq_getElem h1'
  rw [dh.ac2, au h1', List.any_cons]
  simp only [v0, ic, ct, kq, ab, next, an (gm ht), an (gm e1), h _ (List.getElem_mem h1'), bq]
  rw [decide_eq_true (by omega), aj (by omega), axa v w i t ht hlw h X next d (k + 1) _ (by omega)]
  cases b <;> rfl
theorem apn (v w : List Tm) (hlv : v.length ≤ 1073741824) (hlw : w.length ≤ 1073741824) (h : ∀ t ∈ v, ∀ u ∈ w, dc (.agg 8 (ao t)) (.agg 8 (ao u)) = some (.bool (mw t u))) :
  ∀ (d i : Nat), i + d = v.length → dh.l0 (.boxv 1 [.sl 8 (al v)] []) (.boxv 1 [.sl 8 (al w)] []) (.int .i64 (i : Int)) = some (.bool (va (v.drop i) w))
 | 0, i, hi => by
  rw [dh.ai]
  simp only [v0, ic, ct]
  rw [decide_eq_false (by omega), ifF, bc (by omega)]; rfl
 | d + 1, i, hi => by
  have h1' : i < v.length := by omega
  have e1 : v[i]? = some v[i] := List.getElem?_eq_getElem h1'
  have hnext : dh.l0 (.boxv 1 [.sl 8 (al v)] []) (.boxv 1 [.sl 8 (al w)] []) (.int .i64 (w64 ((i : Int) + 1))) = some (.bool (va (v.drop (i + 1)) w)) := by rw [aj (by omega)]; exact apn v w hlv hlw h d (i + 1) (by omega)
  have hin := axa v w i v[i] e1 hlw (h _ (List.getElem_mem h1')) _ hnext w.length 0 false (by omega)
  rw [dh.ai, au h1']
  simp only [v0, ic, ct]
  rw [decide_eq_true (by omega), ifT]
  rw [e00, List.drop_zero, Bool.false_or] at hin
  rw [hin]
  unfold va
  rw [List.all_cons, aki]
  cases w.any fun u => mw v[i] u <;> rfl
theorem apo {v w : List Tm} (hlv : v.length ≤ 1073741824) (hlw : w.length ≤ 1073741824) (h : ∀ t ∈ v, ∀ u ∈ w, dc (.agg 8 (ao t)) (.agg 8 (ao u)) = some (.bool (mw t u))) :
  dh (.agg 1 [.sl 8 (al v)]) (.agg 1 [.sl 8 (al w)]) = some (.bool (va v w)) := by
 have := apn v w hlv hlw h v.length 0 (by omega)
 rw [dh.ae]
 rw [e00, List.drop_zero] at this
 exact this
theorem axb : ∀ (n : Nat), n ≤ 1073741824 →
  (∀ a b : Tm, szT a ≤ 1073741824 → szT b ≤ n → dc (.agg 8 (ao a)) (.agg 8 (ao b)) = some (.bool (mw a b))) ∧
  (∀ v w : List Tm, szV v ≤ 1073741824 → szV w ≤ n → dh (.agg 1 [.sl 8 (al v)]) (.agg 1 [.sl 8 (al w)]) = some (.bool (va v w)))
 | 0, _ => by
  refine ⟨fun a b ha hb => ?_, fun v w hv hw => ?_⟩
  ·rw [fw] at hb; omega
  ·have hl := fh w
   have hl' := fh v
   obtain rfl : w = [] := List.eq_nil_of_length_eq_zero (by omega)
   exact apo (by omega) (by simp) (fun t ht u hu => by cases hu)
 | n + 1, hn => by
  obtain ⟨hT, hV⟩ := axb n (by omega)
  have hT' : ∀ a b : Tm, szT a ≤ 1073741824 → szT b ≤ n + 1 → dc (.agg 8 (ao a)) (.agg 8 (ao b)) = some (.bool (mw a b)) := fun a b ha hb => by
   rw [fw] at ha hb
   have hla := gw a.fs
   have hlb := gw b.fs
   refine bbs (by omega) (by omega) fun f hf g hg => hV f.v g.v ?_ ?_
   ·have := al7 hf; omega
   ·have := al7 hg; omega
  refine ⟨hT', fun v w hv hw => ?_⟩
  have hl := fh w
  have hl' := fh v
  refine apo (by omega) (by omega) fun t ht u hu => hT' t u ?_ ?_
  ·have := ll ht; omega
  ·have := ll hu; omega
mutual
theorem bfv : ∀ (t : Tm) (d : Int), liT Rn d t = true → rnT t = true
 | .mk k lo hi s a m o fs, d, h => by
  rw [rnT]
  by_cases h4 : k = 4
  ·rw [liT, if_neg (by omega), if_pos h4, Bool.and_eq_true] at h
   rw [if_pos h4, Bool.and_eq_true]
   refine ⟨?_, a2l fs _ h.2⟩
   have := h.1
   rw [aaf] at this
   simp only [Bool.and_eq_true] at this
   exact this.2
  ·rw [if_neg h4]
theorem a2l : ∀ (fs : List Fd) (d : Int), liF Rn d fs = true → rnF fs = true
 | [], d, h => rfl
 | .mk n v :: r, d, h => by
  rw [liF] at h
  simp only [Bool.and_eq_true] at h
  rw [rnF, Bool.and_eq_true]
  exact ⟨atl v d h.1.2.1.1.2, a2l r d h.2⟩
theorem atl : ∀ (v : List Tm) (d : Int), liL Rn d v = true → rnL v = true
 | [], d, h => rfl
 | t :: r, d, h => by
  rw [liL, Bool.and_eq_true] at h
  rw [rnL, Bool.and_eq_true]
  exact ⟨bfv t d h.1, atl r d h.2⟩
end
def al8 : Tm := .mk 5 0 0 [] false false false []
theorem aa0 {a b : Int} : fx a b = 0 ↔ a = 0 ∧ b = 0 := by unfold fx; split <;> omega
theorem a2m (b : Bool) : flag b - flag false = 0 ↔ b = false := by cases b <;> decide
theorem a2n {t : Tm} (h : t.k = 5) : decide (nr t al8 = 0) = yl t := by
 obtain ⟨k, lo, hi, s, a, m, o, fs⟩ := t
 rw [an5]
 simp only [al8, yl, aa0, Tm.k, Tm.lo, Tm.hi, Tm.s, Tm.a, Tm.m, Tm.o, Tm.fs, aln, ahi, a2m] at h ⊢
 rw [Bool.eq_iff_iff]
 have hF : ry fs [] = 0 ↔ fs = [] := by
  cases fs with
  | nil => simp [ry]
  | cons f r => obtain ⟨n, v⟩ := f; simp [ry]
 simp [h, hF]
 constructor <;> intro hh <;> simp_all
theorem axc : ao al8 = [AV.int .i64 5, AV.int .i64 0, AV.int .i64 0, AV.str [], AV.bool false, AV.bool false, AV.bool false, AV.sl 2 []] := rfl
def xv : Option Tm → List Tm → Bool
 | _, [] => true
 | none, t :: r => xv (some t) r
 | some p, t :: r => decide (nr p t < 0) && xv (some t) r
theorem apq : ∀ (r : List Tm) (t : Tm), acp (t :: r) = xv (some t) r
 | [], t => rfl
 | u :: r, t => by rw [acp, xv, apq r u]
theorem axd : ∀ v : List Tm, acp v = xv none v
 | [] => rfl
 | t :: r => by rw [xv, apq]
def uv (v : List Tm) (i : Nat) : Option Tm := if i = 0 then none else v[i - 1]?
theorem al9 {v : List Tm} {i : Nat} {t : Tm} (h : v[i]? = some t) : uv v (i + 1) = some t := by
 unfold uv
 rw [if_neg (by omega), Nat.add_sub_cancel, h]
def ac7 (v : List Tm) (i k : Nat) : Bool := decide (i = k) || (match v[i]?, v[k]? with | some t, some u => !mw t u | _, _ => true)
theorem axe (v : List Tm) : aj9 v = (List.range v.length).all fun i => (List.range v.length).all fun k => ac7 v i k := rfl
theorem aby {n k : Nat} (h : k < n) : (List.range n).drop k = k :: (List.range n).drop (k + 1) := by
 rw [au (l := List.range n) (i := k) (by rw [List.length_range]; exact h), List.getElem_range]
theorem bfw (R : Bs → Bool) (D : Int) (t : Tm) : liT R D t = if t.k = 5 then yl t else if t.k = 4 then aaf R t && liF R (D - 1) t.fs else kv t := by cases t; rw [liT]; rfl
theorem vn (R : Bs → Bool) (t : Tm) : okT R t = if t.k = 5 then yl t else if t.k = 4 then aaf R t && okF R t.fs else kv t := by cases t; rw [okT]; rfl
theorem atm (R : Bs → Bool) (t : Tm) : aaf R t = (decide (t.lo = 0 ∧ t.hi = 0 ∧ t.s = []) && !t.a && !t.m && decide (t.fs.length ≤ 32) && jc R none t.fs) := by cases t; rw [aaf]; rfl
theorem a7n (R : Bs → Bool) (D : Int) (f : Fd) (r : List Fd) : liF R D (f :: r) = (!f.v.isEmpty && liV R D f.v && liF R D r) := by cases f; rw [liF]; rfl
theorem age (R : Bs → Bool) (f : Fd) (r : List Fd) : okF R (f :: r) = (!f.v.isEmpty && okV R f.v && okF R r) := by cases f; rw [okF]; rfl
theorem ay8 {β : Type} (v : List β) : decide ((v.length : Int) = 0) = v.isEmpty := by cases v <;> simp <;> omega
theorem a9z (a b : Int) (s : Bs) : decide (a = 0 ∧ b = 0 ∧ s = []) = (decide (a = 0) && decide (b = 0) && decide (s = [])) := by rw [Bool.eq_iff_iff]; simp [and_assoc]
theorem a90 (v : List Tm) (i : Nat) (t : Tm) (ht : v[i]? = some t) (hl : v.length ≤ 1073741824) (h : ∀ u ∈ v, gx (.agg 8 (ao t)) (.agg 8 (ao u)) = some (.bool (mw t u)))
  (X : Option AV) (next : cx.l1 (.boxv 1 [.sl 8 (al v)] []) (.sl 8 (al v)) (.int .i64 (v.length : Int)) (.int .i64 ((i + 1 : Nat) : Int)) = X) :
  ∀ (d k : Nat), k + d = v.length → cx.l2 (.boxv 1 [.sl 8 (al v)] []) (.int .i64 (i : Int)) (.boxv 8 (ao t) []) (.sl 8 (al v)) (.int .i64 (v.length : Int)) (.int .i64 (i : Int)) (.sl 8 (al v)) (.int .i64 (v.length : Int)) (.int .i64 (k : Int)) = if ((List.range v.length).drop k).all (fun k => ac7 v i k) = true then X else some (.bool false)
 | 0, k, hk => by
  have hi : i < v.length := (List.getElem?_eq_some_iff.1 ht).1
  rw [cx.y7, decide_eq_false (by omega), ifF, aj (by omega), next, bc (by rw [List.length_range]; omega)]; rfl
 | d + 1, k, hk => by
  have h1' : k < v.length := by omega
  have e1 : v[k]? = some v[k] := List.getElem?_eq_getElem h1'
  have ih := a90 v i t ht hl h X next d (k + 1) (by omega)
  rw [cx.y7, decide_eq_true (by omega), ifT, aby h1', List.all_cons]
  simp only [an (gm e1), h _ (List.getElem_mem h1'), ab, bq, kq]
  rw [aj (by omega), ih]
  have hq : ac7 v i k = (decide (i = k) || !mw t v[k]) := by unfold ac7; rw [ht, e1]
  have hc : decide ((i : Int) = (k : Int)) = decide (i = k) := by rw [Bool.eq_iff_iff]; simp <;> omega
  rw [hq, hc]
  cases decide (i = k) <;> cases mw t v[k] <;> simp [ifT, ifF]
theorem a92 (v : List Tm) (hl : v.length ≤ 1073741824) (h : ∀ t ∈ v, ∀ u ∈ v, gx (.agg 8 (ao t)) (.agg 8 (ao u)) = some (.bool (mw t u))) :
  ∀ (d i : Nat), i + d = v.length → cx.l1 (.boxv 1 [.sl 8 (al v)] []) (.sl 8 (al v)) (.int .i64 (v.length : Int)) (.int .i64 (i : Int)) = some (.bool (((List.range v.length).drop i).all fun i => (List.range v.length).all fun k => ac7 v i k))
 | 0, i, hi => by
  rw [cx.en, decide_eq_false (by omega), ifF, bc (by rw [List.length_range]; omega)]; rfl
 | d + 1, i, hi => by
  have h1' : i < v.length := by omega
  have e1 : v[i]? = some v[i] := List.getElem?_eq_getElem h1'
  have h2 := a90 v i v[i] e1 hl (h _ (List.getElem_mem h1')) _ (a92 v hl h d (i + 1) (by omega)) v.length 0 (by omega)
  rw [e00, List.drop_zero] at h2
  rw [cx.en, decide_eq_true (by omega), ifT, aby h1', List.all_cons]
  simp only [an (gm e1), v0, ic, ct]
  rw [h2]
  cases (List.range v.length).all fun k => ac7 v i k <;> simp
theorem a94 (v : List Tm) (D : Int) (hl : szV v ≤ 1073741824) (h : ∀ t ∈ v, iy (.agg 8 (ao t)) (.int .i64 D) = some (.bool (liT Rn D t)))
  (X : Option AV) (next : cx.l1 (.boxv 1 [.sl 8 (al v)] []) (.sl 8 (al v)) (.int .i64 (v.length : Int)) (.int .i64 0) = X) :
  ∀ (d i : Nat), i + d = v.length → cx.l0 (.int .i64 D) (.boxv 1 [.sl 8 (al v)] []) (.sl 8 (al v)) (.int .i64 (v.length : Int)) (.int .i64 (i : Int)) = if (liL Rn D (v.drop i) && xv (uv v i) (v.drop i)) = true then X else some (.bool false)
 | 0, i, hi => by
  rw [cx.ai, decide_eq_false (by omega), ifF]
  simp only [v0, ic, ct]
  rw [next, bc (by omega), liL]; cases uv v i <;> simp [xv]
 | d + 1, i, hi => by
  have h1' : i < v.length := by omega
  have e1 : v[i]? = some v[i] := List.getElem?_eq_getElem h1'
  have hlen := fh v
  have ih := a94 v D hl h X next d (i + 1) (by omega)
  rw [al9 e1] at ih
  rw [cx.ai, decide_eq_true (by omega), ifT, au h1', liL]
  simp only [an (gm e1), h _ (List.getElem_mem h1'), ab, bq]
  rw [aj (by omega), ih]
  by_cases hi0 : i = 0
  ·subst hi0
   rw [e00, decide_eq_false (by omega), ifF]
   simp only [orK, ab]
   have : uv v 0 = none := rfl
   rw [this, xv]
   cases liT Rn D v[0] <;> simp [ifT, ifF]
  ·have e2 : v[i - 1]? = some v[i - 1] := List.getElem?_eq_getElem (by omega)
   have hs := se e2
   rw [decide_eq_true (by omega), ifT, rh (by omega) (by omega)]
   simp only [v0, ic, an (gm e2), as4 (t := v[i - 1]) (u := v[i]) (by omega), ab, bf, orK]
   have : uv v i = some v[i - 1] := by unfold uv; rw [if_neg hi0, e2]
   rw [this, xv]
   have hc : decide (0 ≤ nr v[i - 1] v[i]) = !decide (nr v[i - 1] v[i] < 0) := by rw [Bool.eq_iff_iff]; simp
   rw [hc]
   cases liT Rn D v[i] <;> cases decide (nr v[i - 1] v[i] < 0) <;> simp [ifT, ifF]
theorem a2o (v : List Tm) (D : Int) (hl : szV v ≤ 1073741824) (hD : 1 ≤ D → ∀ t ∈ v, iy (.agg 8 (ao t)) (.int .i64 D) = some (.bool (liT Rn D t))) :
  cx (.agg 1 [.sl 8 (al v)]) (.int .i64 D) = some (.bool (liV Rn D v)) := by
 rw [cx.ae]
 simp only [v0, ic, ct, orK, ab]
 have hlen := fh v
 unfold liV
 by_cases h1 : D < 1
 ·rw [decide_eq_true h1, Bool.true_or, ifT, decide_eq_false (p := 1 ≤ D) (by omega)]; simp
 by_cases h2 : 512 < v.length
 ·rw [decide_eq_true (p := (512 : Int) < (v.length : Int)) (by omega), Bool.or_true, ifT, decide_eq_false (p := v.length ≤ 512) (by omega)]; simp
 rw [decide_eq_false h1, decide_eq_false (p := (512 : Int) < (v.length : Int)) (by omega), Bool.or_self, ifF, decide_eq_true (p := 1 ≤ D) (by omega), decide_eq_true (p := v.length ≤ 512) (by omega), Bool.true_and, Bool.true_and]
 have h0 := a94 v D hl (hD (by omega)) _ rfl v.length 0 (by omega)
 rw [e00, List.drop_zero] at h0
 rw [h0, axd]
 have : uv v 0 = none := rfl
 rw [this]
 cases hli : liL Rn D v with
 | false => simp
 | true =>
  have rn := atl v D hli
  have hb := a92 v (by omega) (fun t ht u hu => (aw9 1073741824 (Nat.le_refl _)).1 t u (by have := ll ht; omega) (by have := ll hu; omega) (afe v rn t ht) (afe v rn u hu)) v.length 0 (by omega)
  rw [e00, List.drop_zero, ← axe] at hb
  rw [hb]
  cases xv none v <;> simp
theorem atn (fs : List Fd) (D : Int) (hD : -1000 ≤ D ∧ D ≤ 1000) (hl : fs.length ≤ 1073741824) (h : ∀ f ∈ fs, cx (.agg 1 [.sl 8 (al f.v)]) (.int .i64 (D - 1)) = some (.bool (liV Rn (D - 1) f.v))) :
  ∀ (d i : Nat), i + d = fs.length → iy.l0 (.int .i64 D) (.sl 2 (cq fs)) (.int .i64 (fs.length : Int)) (.int .i64 (i : Int)) = some (.bool (liF Rn (D - 1) (fs.drop i)))
 | 0, i, hi => by rw [iy.ai, decide_eq_false (by omega), ifF, bc (by omega)]; rfl
 | d + 1, i, hi => by
  have h1' : i < fs.length := by omega
  have e1 : fs[i]? = some fs[i] := List.getElem?_eq_getElem h1'
  have hc := h _ (List.getElem_mem h1')
  rw [iy.ai, decide_eq_true (by omega), ifT, au h1']
  simp only [an (dx e1), h1, ic, ct, frz]
  rw [qm (by omega), hc, aj (by omega), atn fs D hD hl h d (i + 1) (by omega), a7n]
  simp only [ab, bq, orK, ay8]
  cases fs[i].v.isEmpty <;> cases liV Rn (D - 1) fs[i].v <;> simp [ifT, ifF]
theorem a7o (t : Tm) : ac1 (.agg 8 (ao t)) = some (.bool (decide (t.lo = 0 ∧ t.hi = 0 ∧ t.s = []) && !t.a && !t.m)) := by
 rw [ac1.ae]
 simp only [g1, g2, g3, g4, g5, bf, cf, bq, kq, ab]
 rw [a9z]
theorem apr (t : Tm) (D : Int) (hD : 1 ≤ D ∧ D ≤ 1000) (hl : szT t ≤ 1073741824) (h : ∀ f ∈ t.fs, cx (.agg 1 [.sl 8 (al f.v)]) (.int .i64 (D - 1)) = some (.bool (liV Rn (D - 1) f.v))) :
  iy (.agg 8 (ao t)) (.int .i64 D) = some (.bool (liT Rn D t)) := by
 rw [fw] at hl
 have hlen := gw t.fs
 have hf := atn t.fs D (by omega) (by omega) h t.fs.length 0 (by omega)
 rw [e00, List.drop_zero] at hf
 rw [iy.ae]
 simp only [g0, g7, bf, jk, a7o, cp, bbo t.fs (by omega), zo, ab, bq, orK, hf]
 have ha : vj (.agg 8 (ao t)) = some (.bool (decide (nr t al8 = 0))) := by
  rw [vj.ae, ← axc, as4 (by rw [fw]; omega)]; rfl
 rw [ha]
 rw [bfw]
 by_cases h5 : t.k = 5
 ·rw [decide_eq_true h5, ifT, if_pos h5, a2n h5]; rfl
 rw [decide_eq_false h5, ifF, if_neg h5]
 by_cases h4 : t.k = 4
 ·rw [decide_eq_true h4, ifT, if_pos h4, atm]
  have hc : decide ((32 : Int) < (t.fs.length : Int)) = !decide (t.fs.length ≤ 32) := by rw [Bool.eq_iff_iff]; simp <;> omega
  rw [hc]
  cases decide (t.lo = 0 ∧ t.hi = 0 ∧ t.s = []) <;> cases t.a <;> cases t.m <;> cases decide (t.fs.length ≤ 32) <;> cases jc Nam.ep none t.fs <;> cases liF Rn (D - 1) t.fs <;> rfl
 ·rw [decide_eq_false h4, ifF, if_neg h4]
theorem ato : ∀ (n : Nat), n ≤ 1073741824 → ∀ (v : List Tm) (D : Int), D ≤ 1000 → szV v ≤ n → cx (.agg 1 [.sl 8 (al v)]) (.int .i64 D) = some (.bool (liV Rn D v))
 | n, hn, v, D, hD, hv => a2o v D (by omega) fun h1 t ht => apr t D ⟨h1, hD⟩ (by have := ll ht; omega) fun f hf => ato n hn f.v (D - 1) (by omega) (by have := jt ht hf; omega)
termination_by n hn v => szV v
decreasing_by have := jt ht hf; omega
theorem aa1 (v : List Tm) (hl : szV v ≤ 1073741824) : qj (.agg 1 [.sl 8 (al v)]) = some (.bool (okV Rn v)) := by
 rw [qj.ae, ato 1073741824 (Nat.le_refl _) v 16 (by omega) hl, atf 1073741824 v hl (Nat.le_refl _)]
 simp only [ab, bq, bf, kq]
 rw [← bha]
 congr 3
 rw [Bool.eq_iff_iff]; simp <;> omega
theorem a95 (v : List Tm) (i : Nat) (t : Tm) (ht : v[i]? = some t) (hl : v.length ≤ 1073741824) (h : ∀ u ∈ v, dc (.agg 8 (ao t)) (.agg 8 (ao u)) = some (.bool (mw t u)))
  (X : Option AV) (next : ca.l1 (.boxv 1 [.sl 8 (al v)] []) (.int .i64 ((i + 1 : Nat) : Int)) = X) :
  ∀ (d k : Nat), k + d = v.length → ca.l2 (.boxv 1 [.sl 8 (al v)] []) (.int .i64 (i : Int)) (.int .i64 (k : Int)) = if ((List.range v.length).drop k).all (fun k => ac7 v i k) = true then X else some (.bool false)
 | 0, k, hk => by
  have hi : i < v.length := (List.getElem?_eq_some_iff.1 ht).1
  rw [ca.y7]
  simp only [v0, ic, ct]
  rw [decide_eq_false (by omega), ifF, aj (by omega), next, bc (by rw [List.length_range]; omega)]; rfl
 | d + 1, k, hk => by
  have h1' : k < v.length := by omega
  have e1 : v[k]? = some v[k] := List.getElem?_eq_getElem h1'
  have ih := a95 v i t ht hl h X next d (k + 1) (by omega)
  rw [ca.y7, aby h1', List.all_cons]
  simp only [v0, ic, ct, an (gm ht), an (gm e1), h _ (List.getElem_mem h1'), ab, bq, kq]
  rw [decide_eq_true (by omega), ifT, aj (by omega), ih]
  have hq : ac7 v i k = (decide (i = k) || !mw t v[k]) := by unfold ac7; rw [ht, e1]
  have hc : decide ((i : Int) = (k : Int)) = decide (i = k) := by rw [Bool.eq_iff_iff]; simp <;> omega
  rw [hq, hc]
  cases decide (i = k) <;> cases mw t v[k] <;> simp [ifT, ifF]
theorem a96 (v : List Tm) (hl : v.length ≤ 1073741824) (h : ∀ t ∈ v, ∀ u ∈ v, dc (.agg 8 (ao t)) (.agg 8 (ao u)) = some (.bool (mw t u))) :
  ∀ (d i : Nat), i + d = v.length → ca.l1 (.boxv 1 [.sl 8 (al v)] []) (.int .i64 (i : Int)) = some (.bool (((List.range v.length).drop i).all fun i => (List.range v.length).all fun k => ac7 v i k))
 | 0, i, hi => by
  rw [ca.en]
  simp only [v0, ic, ct]
  rw [decide_eq_false (by omega), ifF, bc (by rw [List.length_range]; omega)]; rfl
 | d + 1, i, hi => by
  have h1' : i < v.length := by omega
  have e1 : v[i]? = some v[i] := List.getElem?_eq_getElem h1'
  have h2 := a95 v i v[i] e1 hl (h _ (List.getElem_mem h1')) _ (a96 v hl h d (i + 1) (by omega)) v.length 0 (by omega)
  rw [e00, List.drop_zero] at h2
  rw [ca.en, aby h1', List.all_cons]
  simp only [v0, ic, ct]
  rw [decide_eq_true (by omega), ifT, h2]
  cases (List.range v.length).all fun k => ac7 v i k <;> simp
theorem a97 (v : List Tm) (hl : szV v ≤ 1073741824) (h : ∀ t ∈ v, jo (.agg 8 (ao t)) = some (.bool (okT Rn t)))
  (X : Option AV) (next : ca.l1 (.boxv 1 [.sl 8 (al v)] []) (.int .i64 0) = X) :
  ∀ (d i : Nat), i + d = v.length → ca.l0 (.boxv 1 [.sl 8 (al v)] []) (.int .i64 (i : Int)) = if (okL Rn (v.drop i) && xv (uv v i) (v.drop i)) = true then X else some (.bool false)
 | 0, i, hi => by
  rw [ca.ai]
  simp only [v0, ic, ct]
  rw [decide_eq_false (by omega), ifF, next, bc (by omega), okL]; cases uv v i <;> simp [xv]
 | d + 1, i, hi => by
  have h1' : i < v.length := by omega
  have e1 : v[i]? = some v[i] := List.getElem?_eq_getElem h1'
  have hlen := fh v
  have ih := a97 v hl h X next d (i + 1) (by omega)
  rw [al9 e1] at ih
  rw [ca.ai, au h1', okL]
  simp only [v0, ic, ct, an (gm e1), h _ (List.getElem_mem h1'), ab, bq]
  rw [decide_eq_true (by omega), ifT, aj (by omega), ih]
  by_cases hi0 : i = 0
  ·subst hi0
   rw [e00, decide_eq_false (by omega), ifF]
   simp only [orK, ab]
   have : uv v 0 = none := rfl
   rw [this, xv]
   cases okT Rn v[0] <;> simp [ifT, ifF]
  ·have e2 : v[i - 1]? = some v[i - 1] := List.getElem?_eq_getElem (by omega)
   have hs := se e2
   rw [decide_eq_true (by omega), ifT, rh (by omega) (by omega)]
   simp only [an (gm e2), as7 (t := v[i - 1]) (u := v[i]) (by omega), ab, bf, orK]
   have : uv v i = some v[i - 1] := by unfold uv; rw [if_neg hi0, e2]
   rw [this, xv]
   have hc : decide (0 ≤ nr v[i - 1] v[i]) = !decide (nr v[i - 1] v[i] < 0) := by rw [Bool.eq_iff_iff]; simp
   rw [hc]
   cases okT Rn v[i] <;> cases decide (nr v[i - 1] v[i] < 0) <;> simp [ifT, ifF]
theorem a2p (v : List Tm) (hl : szV v ≤ 1073741824) (h : ∀ t ∈ v, jo (.agg 8 (ao t)) = some (.bool (okT Rn t))) :
  ca (.agg 1 [.sl 8 (al v)]) = some (.bool (okV Rn v)) := by
 rw [ca.ae, ata 1073741824 v hl (Nat.le_refl _), a2g 1073741824 v hl (Nat.le_refl _)]
 simp only [ab, bf, orK]
 have hlen := fh v
 unfold okV acq
 have c1 : decide ((512 : Int) < (wtV v : Int)) = !decide (wtV v ≤ 512) := by rw [Bool.eq_iff_iff]; simp <;> omega
 have c2 : decide ((16 : Int) < (depth v : Int)) = !decide (depth v ≤ 16) := by rw [Bool.eq_iff_iff]; simp <;> omega
 rw [c1, c2]
 have hb := a96 v (by omega) (fun t ht u hu => (axb 1073741824 (Nat.le_refl _)).1 t u (by have := ll ht; omega) (by have := ll hu; omega)) v.length 0 (by omega)
 rw [e00, List.drop_zero, ← axe] at hb
 have h0 := a97 v hl h _ hb v.length 0 (by omega)
 rw [e00, List.drop_zero, show uv v 0 = none from rfl, ← axd] at h0
 rw [h0]
 cases decide (wtV v ≤ 512) <;> cases decide (depth v ≤ 16) <;> cases okL Rn v <;> cases acp v <;> simp [ifT, ifF]
theorem a7p (v : List Tm) : (al v).isEmpty = v.isEmpty := by cases v <;> rfl
theorem axf (t : Tm) (hl : t.fs.length ≤ 1073741824) (h : ∀ f ∈ t.fs, ca (.agg 1 [.sl 8 (al f.v)]) = some (.bool (okV Rn f.v))) :
  ∀ (d i : Nat), i + d = t.fs.length → jo.l0 (.boxv 8 (ao t) []) (.int .i64 (i : Int)) = some (.bool (okF Rn (t.fs.drop i)))
 | 0, i, hi => by
  rw [jo.ai]
  simp only [g7, jk, cp]
  rw [decide_eq_false (by omega), ifF, bc (by omega)]; rfl
 | d + 1, i, hi => by
  have h1' : i < t.fs.length := by omega
  have e1 : t.fs[i]? = some t.fs[i] := List.getElem?_eq_getElem h1'
  have hc := h _ (List.getElem_mem h1')
  have ih := axf t hl h d (i + 1) (by omega)
  rw [jo.ai, au h1', age]
  simp only [g7, jk, cp, an (dx e1), h1, ic, hc, ab, bq, orK, ay8, a7p]
  rw [decide_eq_true (by omega), ifT, aj (by omega), ih]
  cases t.fs[i].v.isEmpty <;> cases okV Rn t.fs[i].v <;> simp [ifT, ifF]
theorem a7q (t : Tm) (hl : szT t ≤ 1073741824) (h : ∀ f ∈ t.fs, ca (.agg 1 [.sl 8 (al f.v)]) = some (.bool (okV Rn f.v))) :
  jo (.agg 8 (ao t)) = some (.bool (okT Rn t)) := by
 have hT := @as7 t al8 hl
 rw [fw] at hl
 have hlen := gw t.fs
 have hf := axf t (by omega) h t.fs.length 0 (by omega)
 rw [e00, List.drop_zero] at hf
 rw [jo.ae, ← axc, hT]
 simp only [g0, g1, g2, g3, g4, g5, g7, bf, cf, bq, jk, cp, a7m t.fs (by omega), ac4, ab, orK, hf]
 rw [vn]
 by_cases h5 : t.k = 5
 ·rw [decide_eq_true h5, ifT, if_pos h5, a2n h5]
 rw [decide_eq_false h5, ifF, if_neg h5]
 by_cases h4 : t.k = 4
 ·rw [decide_eq_true h4, if_pos h4, atm, a9z]
  have hc : decide ((32 : Int) < (t.fs.length : Int)) = !decide (t.fs.length ≤ 32) := by rw [Bool.eq_iff_iff]; simp <;> omega
  rw [hc]
  cases decide (t.lo = 0) <;> cases decide (t.hi = 0) <;> cases decide (t.s = []) <;> cases t.a <;> cases t.m <;> cases decide (t.fs.length ≤ 32) <;> cases jc Nam.ep none t.fs <;> cases okF Rn t.fs <;> rfl
 ·rw [decide_eq_false h4, if_neg h4]; rfl
theorem aed : ∀ (v : List Tm), szV v ≤ 1073741824 → ca (.agg 1 [.sl 8 (al v)]) = some (.bool (okV Rn v))
 | v, hv => a2p v hv fun t ht => a7q t (by have := ll ht; omega) fun f hf => aed f.v (by have := jt ht hf; omega)
termination_by v => szV v
decreasing_by have := jt ht hf; omega
theorem a2q (w : Bool) (t : Tm) : seT w t = (decide (t.k ≠ 5) && (if t.k = 4 then seF w t.fs else single t || (w && t.m))) := by cases t; rw [seT]; rfl
theorem atp (w : Bool) (f : Fd) (r : List Fd) : seF w (f :: r) = (seL w f.v && seF w r) := by cases f; rw [seF]; rfl
theorem ai5 {α : Type} (t : Tm) (r : List Tm) (k : List AV → Option α) : idx (al (t :: r)) 0 k = k (ao t) := an (j := 0) (l := al (t :: r)) (x := ao t) (by rw [nw]; rfl) k
theorem aps (w : Bool) (t : Tm) (hl : t.fs.length ≤ 1073741824) (h : ∀ f ∈ t.fs, fc (.agg 1 [.sl 8 (al f.v)]) (.bool w) = some (.bool (seL w f.v))) :
  ∀ (d i : Nat), i + d = t.fs.length → fc.l0 (.bool w) (.boxv 8 (ao t) []) (.int .i64 (i : Int)) = some (.bool (seF w (t.fs.drop i)))
 | 0, i, hi => by
  rw [fc.ai]
  simp only [g7, jk, cp]
  rw [decide_eq_false (by omega), ifF, bc (by omega)]; rfl
 | d + 1, i, hi => by
  have h1' : i < t.fs.length := by omega
  have e1 : t.fs[i]? = some t.fs[i] := List.getElem?_eq_getElem h1'
  have ih := aps w t hl h d (i + 1) (by omega)
  rw [fc.ai, au h1', atp]
  simp only [g7, jk, cp, an (dx e1), h1, h _ (List.getElem_mem h1'), ab, bq]
  rw [decide_eq_true (by omega), ifT, aj (by omega), ih]
  cases seL w t.fs[i].v <;> rfl
theorem ay9 (w : Bool) (v : List Tm) (hl : szV v ≤ 1073741824) (h : ∀ t ∈ v, ∀ f ∈ t.fs, fc (.agg 1 [.sl 8 (al f.v)]) (.bool w) = some (.bool (seL w f.v))) :
  fc (.agg 1 [.sl 8 (al v)]) (.bool w) = some (.bool (seL w v)) := by
 rw [fc.ae]
 simp only [v0, ic, ct]
 match v with
 | [] => rfl
 | t :: u :: r =>
  rw [decide_eq_false (by simp <;> omega)]; rfl
 | [t] =>
  have hs := ll (v := [t]) (List.mem_cons_self ..)
  rw [fw] at hs
  have hlen := gw t.fs
  have hf := aps w t (by omega) (h t (List.mem_cons_self ..)) t.fs.length 0 (by omega)
  rw [e00, List.drop_zero] at hf
  simp only [ai5, g0, g5, bf, bq, agb, ab, hf]
  have e1 : decide ((([t] : List Tm).length : Int) = 1) = true := by simp
  rw [e1, Bool.not_true, ifF, seL, a2q]
  by_cases h5 : t.k = 5
  ·simp [h5, ab, ifT]
  rw [decide_eq_false h5, ab, ifF, decide_eq_true (p := t.k ≠ 5) h5, Bool.true_and]
  by_cases h4 : t.k = 4
  ·rw [decide_eq_true h4, Bool.not_true, ifF, if_pos h4]
  ·rw [decide_eq_false h4, Bool.not_false, ifT, if_neg h4]
   cases single t <;> cases w <;> cases t.m <;> rfl
theorem ama (w : Bool) : ∀ (v : List Tm), szV v ≤ 1073741824 → fc (.agg 1 [.sl 8 (al v)]) (.bool w) = some (.bool (seL w v))
 | v, hv => ay9 w v hv fun t ht f hf => ama w f.v (by have := jt ht hf; omega)
termination_by v => szV v
decreasing_by have := jt ht hf; omega
theorem atq (v : List Tm) (hv : szV v ≤ 1073741824) : tv (.agg 1 [.sl 8 (al v)]) = some (.bool (okV Rn v && seL false v)) := by
 rw [tv.ae, aed v hv, ama false v hv]
 simp only [ab, bq, kq]
theorem ab8 : ∀ (v : List Tm), okL Rn v = true → ∀ t ∈ v, okT Rn t = true
 | [], h, t, ht => by cases ht
 | x :: r, h, t, ht => by
  rw [okL, Bool.and_eq_true] at h
  rcases List.mem_cons.1 ht with rfl | ht
  ·exact h.1
  ·exact ab8 r h.2 t ht
theorem aff : ∀ (fs : List Fd), okF Rn fs = true → ∀ f ∈ fs, okV Rn f.v = true
 | [], h, f, hf => by cases hf
 | x :: r, h, f, hf => by
  rw [age] at h
  simp only [Bool.and_eq_true] at h
  rcases List.mem_cons.1 hf with rfl | hf
  ·exact h.1.2
  ·exact aff r h.2 f hf
theorem aal {v : List Tm} (h : okV Rn v = true) : okL Rn v = true := by
 unfold okV at h
 simp only [Bool.and_eq_true] at h
 exact h.1.1.2
theorem a98 {α : Type} (a b : AV) (k : AV → AV → Option α) : ja (.tup [a, b]) k = k a b := rfl
theorem axg (w : Bool) : ∀ fs : List Fd, seF w fs = fs.all fun f => seL w f.v
 | [] => rfl
 | f :: r => by rw [atp, List.all_cons, axg w r]
end Go.Proofs.YtmdimhcjogjcgaaGreatDoor.Lat
