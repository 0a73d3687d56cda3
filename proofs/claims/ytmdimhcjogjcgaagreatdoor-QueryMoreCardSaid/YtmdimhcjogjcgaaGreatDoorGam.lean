/- The order of terms and values: the program's and the document's are one. -/
import Derived.Test.YtmdimhcjogjcgaaGreatDoorGal
import Derived.Test.YtmdimhcjogjcgaaGreatDoorGac
set_option linter.all false
noncomputable section
namespace Go.Proofs.YtmdimhcjogjcgaaGreatDoor.Lat
open Go.Proofs.YtmdimhcjogjcgaaGreatDoor.Abs
theorem bw {β : Type} {l : List β} {i : Nat} (h : l.length ≤ i) : l.drop i = [] := List.drop_eq_nil_of_le h
theorem bc {β : Type} {l : List β} {i : Nat} (h : i < l.length) : l.drop i = l[i] :: l.drop (i + 1) := List.drop_eq_getElem_cons h
theorem ah6 {f : Nat} {g : List AV → Option AV} (h : OO f = some g) (l : List AV) : ag S f l = g l := by rw [ph]; exact aj9 S f l g h
theorem agx (a b : Int) : fm (.int .i64 a) (.int .i64 b) = some (.int .i64 (jd a b)) := by
 have e : ∀ n : Int, j3 (.int .i64 n) = some (.bool false) := fun n => by rw [j3.ae]; simp
 rw [fm.ae, e, e]
 simp only [ad, en, ifF, jd]
 by_cases h : a < b
 ·simp [h, ifT]
 ·by_cases h2 : b < a <;> simp [h, h2, ifF, ifT]
theorem agy (a b : Int) : ju (.int .i64 a) (.int .i64 b) = some (.int .i64 (jd a b)) := by
 rw [ju.ae]
 unfold jd
 by_cases h : a < b
 ·simp [h, ifT]
 ·by_cases h2 : b < a <;> simp [h, h2, ifF, ifT]
theorem akt : ∀ a b : Bs, Lib.compareBytes a b = ll a b
 | [], [] => rfl
 | [], _ :: _ => rfl
 | _ :: _, [] => rfl
 | x :: a, y :: b => by
  rw [Lib.compareBytes, akt a b]
  unfold ll
  simp only [ai]
  by_cases h : x < y
  ·simp [h]
  ·by_cases h2 : y < x
   ·have hne : ¬ x = y := fun e => by subst e; exact absurd h2 (UInt8.lt_irrefl _)
    simp [h, h2, hne]
   ·have : x = y := UInt8.toNat_inj.1 (by rw [acy] at h h2; omega)
    subst this
    simp [h]
theorem anz (a b : Bs) : jm (.str a) (.str b) = some (.int .i64 (ll a b)) := by
 rw [jm.ae, gh.ae]
 have : iz (.str a) (.str b) = some (.int .i64 (ll a b)) := by
  rw [← akt]
  exact ah6 (f := 286) rfl _
 rw [this]; rfl
theorem aku (a b : Bs) : od (.str a) (.str b) = some (.int .i64 (ll a b)) := by
 rw [od.ae]
 unfold ll
 cases h : ai a b with
 | true => rfl
 | false =>
  rw [ifF]
  cases h2 : ai b a with
  | true =>
   have : ¬ a = b := fun e => by subst e; rw [ic] at h2; cases h2
   simp [this, ifT]
  | false =>
   have := qz a b h h2
   subst this
   simp [ifF]
theorem aye (b : Bool) : jz (.bool b) = some (.int .i64 (flag b)) := by rw [jz.ae]; cases b <;> rfl
theorem au3 (a b : Bool) : kz (.bool a) (.bool b) = some (.int .i64 (flag a - flag b)) := by rw [kz.ae]; cases a <;> cases b <;> rfl
theorem a2l (a b : Bool) : w64 (flag a - flag b) = flag a - flag b := by cases a <;> cases b <;> rfl
def xo : List Int → Int
 | [] => 0
 | n :: r => dm n (xo r)
theorem afe (l : List Int) (hl : l.length ≤ 1073741824) : ∀ (d i : Nat), i + d = l.length → gg.l0 (.sl 1 (l.map fun n => [.int .i64 n])) (.int .i64 (l.length : Int)) (.int .i64 (i : Int)) = some (.int .i64 (xo (l.drop i)))
 | 0, i, h => by
  rw [gg.ar, List.drop_eq_nil_of_le (by omega)]
  simp [show ¬ (i : Int) < (l.length : Int) by omega, ifF, xo]
 | d + 1, i, h => by
  have hi : i < l.length := by omega
  have hd : l.drop i = l[i] :: l.drop (i + 1) := List.drop_eq_getElem_cons hi
  rw [gg.ar, hd, decide_eq_true (by omega), ifT, ay (x := [.int .i64 l[i]]) (by simp [hi])]
  simp only [ow, dn]
  rw [bf (by omega), afe l hl d (i + 1) (by omega), xo]
  unfold dm
  by_cases h0 : l[i] = 0 <;> simp [h0, ifT, ifF]
theorem akv (l : List Int) (hl : l.length ≤ 1073741824) : gg (.sl 1 (l.map fun n => [.int .i64 n])) = some (.int .i64 (xo l)) := by
 rw [gg.ae]
 have := afe l hl l.length 0 (by omega)
 rw [List.drop_zero] at this
 rw [List.length_map]; exact this
theorem arp (n : Int) : dm n 0 = n := by unfold dm; split <;> omega
theorem apf (a b c : Int) : dm (dm a b) c = dm a (dm b c) := by unfold dm; split <;> (try split) <;> simp_all
theorem fo {fs : List Fd} {i : Nat} {f : Fd} (h : fs[i]? = some f) : (cb fs)[i]? = some (jg f) := by rw [jq, List.getElem?_map, h]; rfl
theorem jc {v : List Tm} {i : Nat} {t : Tm} (h : v[i]? = some t) : (ak v)[i]? = some (ah t) := by rw [je, List.getElem?_map, h]; rfl
theorem mv {fs : List Fd} {i : Nat} {f : Fd} (h : fs[i]? = some f) : 1 + szV f.v ≤ szF fs := by
 induction fs generalizing i with
 | nil => simp at h
 | cons g r ih =>
  obtain ⟨n, v⟩ := g
  rw [szF]
  cases i with
  | zero => simp at h; subst h; simp [Fd.v] <;> omega
  | succ i => have := ih (i := i) (by simpa using h); omega
theorem pn {v : List Tm} {i : Nat} {t : Tm} (h : v[i]? = some t) : szT t ≤ szV v := by
 induction v generalizing i with
 | nil => simp at h
 | cons g r ih =>
  rw [szV]
  cases i with
  | zero => simp at h; subst h; omega
  | succ i => have := ih (i := i) (by simpa using h); omega
theorem fq (t : Tm) : szT t = 1 + szF t.fs := by cases t; rfl
theorem arq {f g : Fd} (h : ik (.agg 1 [.sl 8 (ak f.v)]) (.agg 1 [.sl 8 (ak g.v)]) = some (.int .i64 (iy f.v g.v))) : ue (.agg 2 (jg f)) (.agg 2 (jg g)) = some (.int .i64 (dm (ll f.n g.n) (iy f.v g.v))) := by
 obtain ⟨n, v⟩ := f
 obtain ⟨m, u⟩ := g
 simp only [Fd.n, Fd.v] at h ⊢
 rw [ue.ae]
 simp only [jg, ow, yp, gx, anz, ad, dn, frz, h]
 have := akv [ll n m, iy v u] (by simp)
 simp only [List.map_cons, List.map_nil] at this
 rw [this]
 simp only [ad, dn, xo, arp]
theorem adl (a b : List Fd) (ha : a.length ≤ 1073741824) (h : ∀ f ∈ a, ∀ g ∈ b, ik (.agg 1 [.sl 8 (ak f.v)]) (.agg 1 [.sl 8 (ak g.v)]) = some (.int .i64 (iy f.v g.v))) :
  ∀ (d i : Nat), i + d = min a.length b.length → dc.l0 (.sl 2 (cb a)) (.sl 2 (cb b)) (.fn 216 []) (.int .i64 ((min a.length b.length : Nat) : Int)) (.int .i64 (i : Int)) = some (.int .i64 (ln (a.drop i) (b.drop i)))
 | 0, i, hi => by
  rw [dc.ar, decide_eq_false (by omega), ifF, agx]
  simp only [ad, dn, ed]
  congr 2
  unfold jd
  rcases Nat.lt_trichotomy a.length b.length with hc | hc | hc
  ·rw [bw (l := a) (by omega), bc (l := b) (i := i) (by omega), ln, if_pos (by omega)]
  ·rw [bw (l := a) (by omega), bw (l := b) (by omega), ln, if_neg (by omega), if_neg (by omega)]
  ·rw [bw (l := b) (by omega), bc (l := a) (i := i) (by omega), ln, if_neg (by omega), if_pos (by omega)]
 | d + 1, i, hi => by
  have h1 : i < a.length := by omega
  have h2 : i < b.length := by omega
  have e1 : a[i]? = some a[i] := List.getElem?_eq_getElem h1
  have e2 : b[i]? = some b[i] := List.getElem?_eq_getElem h2
  rw [dc.ar, decide_eq_true (by omega), ifT, ay (fo e1), ay (fo e2)]
  have hf : ag S 216 ([AV.agg 2 (jg a[i]), AV.agg 2 (jg b[i])] ++ []) = _ := arq (h a[i] (List.getElem_mem h1) b[i] (List.getElem_mem h2))
  rw [hf, bf (by omega), adl a b ha h d (i + 1) (by omega), bc (l := a) h1, bc (l := b) h2]
  generalize a[i] = f
  generalize b[i] = g
  obtain ⟨n, v⟩ := f
  obtain ⟨m, u⟩ := g
  rw [ln]
  simp only [Fd.n, Fd.v, ad, dn]
  generalize dm (ll n m) (iy v u) = x
  unfold dm
  by_cases h0 : x = 0 <;> simp [h0, ifT, ifF]
theorem au4 {t u : Tm} (ha : t.fs.length ≤ 1073741824) (h : ∀ f ∈ t.fs, ∀ g ∈ u.fs, ik (.agg 1 [.sl 8 (ak f.v)]) (.agg 1 [.sl 8 (ak g.v)]) = some (.int .i64 (iy f.v g.v))) : jh (.agg 8 (ah t)) (.agg 8 (ah u)) = some (.int .i64 (jt t u)) := by
 have hl := adl t.fs u.fs ha h (min t.fs.length u.fs.length) 0 (by omega)
 obtain ⟨k, lo, hi, s, a, m, o, fs⟩ := t
 obtain ⟨k', lo', hi', s', a', m', o', fs'⟩ := u
 simp only [Tm.fs, List.drop_zero] at hl
 have hl' : dc (.sl 2 (cb fs)) (.sl 2 (cb fs')) (.fn 216 []) = some (.int .i64 (ln fs fs')) := by
  rw [dc.ae, ed, ed, ← hl]
  congr 2
  omega
 rw [jh.ae]
 simp only [ah, ow, yp, dn, gx, en, lx, agx, anz, aye, ad, hl', a2l]
 have := akv [jd k k', jd lo lo', jd hi hi', ll s s', flag a - flag a', flag m - flag m', flag o - flag o', ln fs fs'] (by simp)
 simp only [List.map_cons, List.map_nil] at this
 rw [this]
 simp only [ad, dn, xo, arp, jt, Tm.k, Tm.lo, Tm.hi, Tm.s, Tm.a, Tm.m, Tm.o, Tm.fs]
theorem zc (a b : List Tm) (ha : a.length ≤ 1073741824) (h : ∀ t ∈ a, ∀ u ∈ b, jh (.agg 8 (ah t)) (.agg 8 (ah u)) = some (.int .i64 (jt t u))) :
  ∀ (d i : Nat), i + d = min a.length b.length → cz.l0 (.sl 8 (ak a)) (.sl 8 (ak b)) (.fn 169 []) (.int .i64 ((min a.length b.length : Nat) : Int)) (.int .i64 (i : Int)) = some (.int .i64 (iy (a.drop i) (b.drop i)))
 | 0, i, hi => by
  rw [cz.ar, decide_eq_false (by omega), ifF, agx]
  simp only [ad, dn, di]
  congr 2
  unfold jd
  rcases Nat.lt_trichotomy a.length b.length with hc | hc | hc
  ·rw [bw (l := a) (by omega), bc (l := b) (i := i) (by omega), iy, if_pos (by omega)]
  ·rw [bw (l := a) (by omega), bw (l := b) (by omega), iy, if_neg (by omega), if_neg (by omega)]
  ·rw [bw (l := b) (by omega), bc (l := a) (i := i) (by omega), iy, if_neg (by omega), if_pos (by omega)]
 | d + 1, i, hi => by
  have h1 : i < a.length := by omega
  have h2 : i < b.length := by omega
  have e1 : a[i]? = some a[i] := List.getElem?_eq_getElem h1
  have e2 : b[i]? = some b[i] := List.getElem?_eq_getElem h2
  rw [cz.ar, decide_eq_true (by omega), ifT, ay (jc e1), ay (jc e2)]
  have hf : ag S 169 ([AV.agg 8 (ah a[i]), AV.agg 8 (ah b[i])] ++ []) = _ := h a[i] (List.getElem_mem h1) b[i] (List.getElem_mem h2)
  rw [hf, bf (by omega), zc a b ha h d (i + 1) (by omega), bc (l := a) h1, bc (l := b) h2, iy]
  simp only [ad, dn]
  generalize jt a[i] b[i] = x
  unfold dm
  by_cases h0 : x = 0 <;> simp [h0, ifT, ifF]
theorem an0 : ∀ (n : Nat), n ≤ 1073741824 → (∀ t u : Tm, szT t ≤ n → jh (.agg 8 (ah t)) (.agg 8 (ah u)) = some (.int .i64 (jt t u))) ∧ (∀ a b : List Tm, szV a ≤ n → ik (.agg 1 [.sl 8 (ak a)]) (.agg 1 [.sl 8 (ak b)]) = some (.int .i64 (iy a b)))
 | 0, _ => by
  have hV : ∀ a b : List Tm, szV a ≤ 0 → ik (.agg 1 [.sl 8 (ak a)]) (.agg 1 [.sl 8 (ak b)]) = some (.int .i64 (iy a b)) := fun a b ha => by
   have hl := fx a
   obtain rfl : a = [] := List.eq_nil_of_length_eq_zero (by omega)
   have := zc [] b (by simp) (fun t ht => by cases ht) 0 0 (by simp)
   rw [ik.ae]
   simp only [ow, jr]
   rw [cz.ae, di, di]
   rw [List.drop_zero, List.drop_zero] at this
   rw [show (min (((([] : List Tm).length : Nat) : Int)) (b.length : Int)) = ((min ([] : List Tm).length b.length : Nat) : Int) by simp <;> omega]
   change (cz.l0 _ _ _ _ (.int .i64 ((0 : Nat) : Int))).bind _ = _
   rw [this]; rfl
  refine ⟨fun t u ht => ?_, hV⟩
  rw [fq] at ht; omega
 | n + 1, hn => by
  obtain ⟨hT, hV⟩ := an0 n (by omega)
  have hT' : ∀ t u : Tm, szT t ≤ n + 1 → jh (.agg 8 (ah t)) (.agg 8 (ah u)) = some (.int .i64 (jt t u)) := fun t u ht => by
   rw [fq] at ht
   have hl := ie t.fs
   refine au4 (by omega) fun f hf g hg => hV f.v g.v ?_
   obtain ⟨i, hi⟩ := List.getElem?_of_mem hf
   have := mv hi
   omega
  refine ⟨hT', fun a b ha => ?_⟩
  have hl := fx a
  have := zc a b (by omega) (fun t ht u hu => hT' t u (by
   obtain ⟨i, hi⟩ := List.getElem?_of_mem ht
   have := pn hi
   omega)) (min a.length b.length) 0 (by omega)
  rw [ik.ae]
  simp only [ow, jr]
  rw [cz.ae, di, di]
  rw [List.drop_zero, List.drop_zero] at this
  rw [show (min ((a.length : Nat) : Int) (b.length : Int)) = ((min a.length b.length : Nat) : Int) by omega]
  change (cz.l0 _ _ _ _ (.int .i64 ((0 : Nat) : Int))).bind _ = _
  rw [this]; rfl
theorem akw {t u : Tm} (h : szT t ≤ 1073741824) : jh (.agg 8 (ah t)) (.agg 8 (ah u)) = some (.int .i64 (jt t u)) := (an0 _ (Nat.le_refl _)).1 t u h
section
variable {α : Type}
theorem g0 (t : Tm) (k : AV → Option α) : ab (ah t) 0 k = k (.int .i64 t.k) := by cases t; rfl
theorem g1 (t : Tm) (k : AV → Option α) : ab (ah t) 1 k = k (.int .i64 t.lo) := by cases t; rfl
theorem g2 (t : Tm) (k : AV → Option α) : ab (ah t) 2 k = k (.int .i64 t.hi) := by cases t; rfl
theorem g3 (t : Tm) (k : AV → Option α) : ab (ah t) 3 k = k (.str t.s) := by cases t; rfl
theorem g4 (t : Tm) (k : AV → Option α) : ab (ah t) 4 k = k (.bool t.a) := by cases t; rfl
theorem g5 (t : Tm) (k : AV → Option α) : ab (ah t) 5 k = k (.bool t.m) := by cases t; rfl
theorem g6 (t : Tm) (k : AV → Option α) : ab (ah t) 6 k = k (.bool t.o) := by cases t; rfl
theorem g7 (t : Tm) (k : AV → Option α) : ab (ah t) 7 k = k (.sl 2 (cb t.fs)) := by cases t; rfl
theorem h0 (f : Fd) (k : AV → Option α) : ab (jg f) 0 k = k (.str f.n) := by cases f; rfl
theorem h1 (f : Fd) (k : AV → Option α) : ab (jg f) 1 k = k (.sl 8 (ak f.v)) := by cases f; rfl
theorem v0 (v : List Tm) (k : AV → Option α) : ab [AV.sl 8 (ak v)] 0 k = k (.sl 8 (ak v)) := rfl
end
theorem a5u (a b x : Int) : ifB (!decide (a = b)) (some (AV.int .i64 (jd a b))) (some (.int .i64 x)) = some (.int .i64 (dm (jd a b) x)) := by
 by_cases h : a = b
 ·have := ae1.2 h
  simp [h, ifF, dm, jd]
 ·have : ¬ jd a b = 0 := fun e => h (ae1.1 e)
  simp [h, ifT, dm, this]
theorem a5v (a b : Bs) (x : Int) : ifB (!decide (a = b)) (some (AV.int .i64 (ll a b))) (some (.int .i64 x)) = some (.int .i64 (dm (ll a b) x)) := by
 by_cases h : a = b
 ·have := abq.2 h
  simp [h, ifF, dm, abq.2]
 ·have : ¬ ll a b = 0 := fun e => h (abq.1 e)
  simp [h, ifT, dm, this]
theorem a5w (a b : Bool) (x : Int) : ifB (!(a == b)) (some (AV.int .i64 (flag a - flag b))) (some (.int .i64 x)) = some (.int .i64 (dm (flag a - flag b) x)) := by cases a <;> cases b <;> rfl
theorem au5 (t u : Tm) : p8 (.agg 8 (ah t)) (.agg 8 (ah u)) = some (.int .i64 (dm (jd t.k u.k) (dm (jd t.lo u.lo) (dm (jd t.hi u.hi) (dm (ll t.s u.s) (dm (flag t.a - flag u.a) (dm (flag t.m - flag u.m) (flag t.o - flag u.o)))))))) := by
 rw [p8.ae]
 simp only [g0, g1, g2, g3, g4, g5, g6, dn, gx, en, agy, aku, au3, ad, a5u, a5v, a5w]
theorem a8h (x y z : Int) : ifB (decide (x = 0)) (ifB (!decide (y = 0)) (some (AV.int .i64 y)) (some (AV.int .i64 z))) (ifB (!decide (x = 0)) (some (AV.int .i64 x)) (some (AV.int .i64 z))) = some (.int .i64 (dm (dm x y) z)) := by
 unfold dm
 by_cases hx : x = 0 <;> by_cases hy : y = 0 <;> simp [hx, hy, ifT, ifF]
theorem a8i (x z : Int) : ifB (!decide (x = 0)) (some (AV.int .i64 x)) (some (AV.int .i64 z)) = some (.int .i64 (dm x z)) := by
 unfold dm; by_cases hx : x = 0 <;> simp [hx, ifT, ifF]
theorem agz (t u : Tm) : jt t u = dm (jd t.k u.k) (dm (jd t.lo u.lo) (dm (jd t.hi u.hi) (dm (ll t.s u.s) (dm (flag t.a - flag u.a) (dm (flag t.m - flag u.m) (dm (flag t.o - flag u.o) (ln t.fs u.fs))))))) := by cases t; rw [jt]; rfl
theorem ah7 (t u : Tm) (ha : t.fs.length ≤ 1073741824) (h : ∀ f ∈ t.fs, ∀ g ∈ u.fs, da (.agg 1 [.sl 8 (ak f.v)]) (.agg 1 [.sl 8 (ak g.v)]) = some (.int .i64 (iy f.v g.v))) :
  ∀ (d i : Nat), i + d = min t.fs.length u.fs.length → dk.l0 (.boxv 8 (ah t) []) (.boxv 8 (ah u) []) (.int .i64 (i : Int)) = some (.int .i64 (ln (t.fs.drop i) (u.fs.drop i)))
 | 0, i, hi => by
  rw [dk.ar]
  simp only [g7, lx, j8, ad, ed, agy, dn]
  have : (decide ((i : Int) < (t.fs.length : Int)) && decide ((i : Int) < (u.fs.length : Int))) = false := by simp; omega
  rw [this, ifF]
  congr 2
  unfold jd
  rcases Nat.lt_trichotomy t.fs.length u.fs.length with hc | hc | hc
  ·rw [bw (l := t.fs) (by omega), bc (l := u.fs) (i := i) (by omega), ln, if_pos (by omega)]
  ·rw [bw (l := t.fs) (by omega), bw (l := u.fs) (by omega), ln, if_neg (by omega), if_neg (by omega)]
  ·rw [bw (l := u.fs) (by omega), bc (l := t.fs) (i := i) (by omega), ln, if_neg (by omega), if_pos (by omega)]
 | d + 1, i, hi => by
  have h1' : i < t.fs.length := by omega
  have h2' : i < u.fs.length := by omega
  have e1 : t.fs[i]? = some t.fs[i] := List.getElem?_eq_getElem h1'
  have e2 : u.fs[i]? = some u.fs[i] := List.getElem?_eq_getElem h2'
  have hc := h _ (List.getElem_mem h1') _ (List.getElem_mem h2')
  have ih := ah7 t u ha h d (i + 1) (by omega)
  rw [dk.ar, bc (l := t.fs) h1', bc (l := u.fs) h2']
  simp only [g7, lx, j8, ad, ed, ay (fo e1), ay (fo e2), h0, h1, gx, aku, dn, hc, bf (show i < 9223372036854775807 by omega), ih]
  have : (decide ((i : Int) < (t.fs.length : Int)) && decide ((i : Int) < (u.fs.length : Int))) = true := by simp; omega
  rw [this, ifT]
  generalize t.fs[i] = f
  generalize u.fs[i] = g
  obtain ⟨m, q⟩ := f
  obtain ⟨m', q'⟩ := g
  rw [ln]
  simp only [Fd.n, Fd.v]
  exact a8h _ _ _
theorem ayf {t u : Tm} (ha : t.fs.length ≤ 1073741824) (h : ∀ f ∈ t.fs, ∀ g ∈ u.fs, da (.agg 1 [.sl 8 (ak f.v)]) (.agg 1 [.sl 8 (ak g.v)]) = some (.int .i64 (iy f.v g.v))) : dk (.agg 8 (ah t)) (.agg 8 (ah u)) = some (.int .i64 (jt t u)) := by
 have hl := ah7 t u ha h (min t.fs.length u.fs.length) 0 (by omega)
 rw [List.drop_zero, List.drop_zero] at hl
 rw [dk.ae, au5]
 have e0 : ((0 : Nat) : Int) = 0 := rfl
 rw [e0] at hl
 simp only [ad, dn, hl]
 rw [a8i, agz]
 simp only [apf]
theorem ah8 (a b : List Tm) (ha : a.length ≤ 1073741824) (h : ∀ t ∈ a, ∀ u ∈ b, dk (.agg 8 (ah t)) (.agg 8 (ah u)) = some (.int .i64 (jt t u))) :
  ∀ (d i : Nat), i + d = min a.length b.length → da.l0 (.boxv 1 [.sl 8 (ak a)] []) (.boxv 1 [.sl 8 (ak b)] []) (.int .i64 (i : Int)) = some (.int .i64 (iy (a.drop i) (b.drop i)))
 | 0, i, hi => by
  rw [da.ar]
  simp only [v0, jr, j8, ad, di, agy, dn]
  have : (decide ((i : Int) < (a.length : Int)) && decide ((i : Int) < (b.length : Int))) = false := by simp; omega
  rw [this, ifF]
  congr 2
  unfold jd
  rcases Nat.lt_trichotomy a.length b.length with hc | hc | hc
  ·rw [bw (l := a) (by omega), bc (l := b) (i := i) (by omega), iy, if_pos (by omega)]
  ·rw [bw (l := a) (by omega), bw (l := b) (by omega), iy, if_neg (by omega), if_neg (by omega)]
  ·rw [bw (l := b) (by omega), bc (l := a) (i := i) (by omega), iy, if_neg (by omega), if_pos (by omega)]
 | d + 1, i, hi => by
  have h1' : i < a.length := by omega
  have h2' : i < b.length := by omega
  have e1 : a[i]? = some a[i] := List.getElem?_eq_getElem h1'
  have e2 : b[i]? = some b[i] := List.getElem?_eq_getElem h2'
  have hc := h _ (List.getElem_mem h1') _ (List.getElem_mem h2')
  have ih := ah8 a b ha h d (i + 1) (by omega)
  rw [da.ar, bc (l := a) h1', bc (l := b) h2', iy]
  simp only [v0, jr, j8, ad, di, ay (jc e1), ay (jc e2), dn, hc, bf (show i < 9223372036854775807 by omega), ih]
  have : (decide ((i : Int) < (a.length : Int)) && decide ((i : Int) < (b.length : Int))) = true := by simp; omega
  rw [this, ifT]
  generalize jt a[i] b[i] = x
  unfold dm
  by_cases hx : x = 0 <;> simp [hx, ifT, ifF]
theorem akx (a b : List Tm) (ha : a.length ≤ 1073741824) (h : ∀ t ∈ a, ∀ u ∈ b, dk (.agg 8 (ah t)) (.agg 8 (ah u)) = some (.int .i64 (jt t u))) : da (.agg 1 [.sl 8 (ak a)]) (.agg 1 [.sl 8 (ak b)]) = some (.int .i64 (iy a b)) := by
 have hl := ah8 a b ha h (min a.length b.length) 0 (by omega)
 rw [List.drop_zero, List.drop_zero] at hl
 rw [da.ae]; exact hl
theorem ars : ∀ (n : Nat), n ≤ 1073741824 → (∀ t u : Tm, szT t ≤ n → dk (.agg 8 (ah t)) (.agg 8 (ah u)) = some (.int .i64 (jt t u))) ∧ (∀ a b : List Tm, szV a ≤ n → da (.agg 1 [.sl 8 (ak a)]) (.agg 1 [.sl 8 (ak b)]) = some (.int .i64 (iy a b)))
 | 0, _ => by
  refine ⟨fun t u ht => ?_, fun a b ha => ?_⟩
  ·rw [fq] at ht; omega
  ·have hl := fx a
   obtain rfl : a = [] := List.eq_nil_of_length_eq_zero (by omega)
   exact akx [] b (by simp) (fun t ht => by cases ht)
 | n + 1, hn => by
  obtain ⟨hT, hV⟩ := ars n (by omega)
  have hT' : ∀ t u : Tm, szT t ≤ n + 1 → dk (.agg 8 (ah t)) (.agg 8 (ah u)) = some (.int .i64 (jt t u)) := fun t u ht => by
   rw [fq] at ht
   have hl := ie t.fs
   refine ayf (by omega) fun f hf g hg => hV f.v g.v ?_
   obtain ⟨i, hi⟩ := List.getElem?_of_mem hf
   have := mv hi
   omega
  refine ⟨hT', fun a b ha => ?_⟩
  have hl := fx a
  exact akx a b (by omega) (fun t ht u hu => hT' t u (by
   obtain ⟨i, hi⟩ := List.getElem?_of_mem ht
   have := pn hi
   omega))
theorem au6 {a b : List Tm} (h : szV a ≤ 1073741824) : da (.agg 1 [.sl 8 (ak a)]) (.agg 1 [.sl 8 (ak b)]) = some (.int .i64 (iy a b)) := (ars _ (Nat.le_refl _)).2 a b h
theorem au7 {a b : List Tm} (h : szV a ≤ 1073741824) : pk (.agg 1 [.sl 8 (ak a)]) (.agg 1 [.sl 8 (ak b)]) = some (.bool (decide (iy a b = 0))) := by
 rw [pk.ae, au6 h]; simp only [ad, dn]
theorem aky (t : Tm) : wtT t = 1 + wtF t.fs := by cases t; rfl
theorem aff : ∀ n, (∀ fs : List Fd, szF fs ≤ n → wtF fs ≤ szF fs) ∧ (∀ v : List Tm, szV v ≤ n → wtV v ≤ szV v)
 | 0 => by
  refine ⟨fun fs h => ?_, fun v h => ?_⟩
  ·have := ie fs
   obtain rfl : fs = [] := List.eq_nil_of_length_eq_zero (by omega)
   simp [wtF]
  ·have := fx v
   obtain rfl : v = [] := List.eq_nil_of_length_eq_zero (by omega)
   simp [wtV]
 | n + 1 => by
  obtain ⟨hF, hV⟩ := aff n
  have hF' : ∀ fs : List Fd, szF fs ≤ n + 1 → wtF fs ≤ szF fs := fun fs => by
   induction fs with
   | nil => intro _; simp [wtF]
   | cons f r ih => obtain ⟨m, v⟩ := f; intro h; rw [szF] at h; rw [wtF, szF]; have := hV v (by omega); have := ih (by omega); omega
  refine ⟨hF', fun v => ?_⟩
  induction v with
  | nil => intro _; simp [wtV]
  | cons t r ih => intro h; rw [szV, fq] at h; rw [wtV, szV, fq, aky]; have := hF t.fs (by omega); have := ih (by omega); omega
theorem ajo (v : List Tm) : wtV v ≤ szV v := (aff _).2 v (Nat.le_refl _)
theorem akz {fs : List Fd} {i : Nat} {f : Fd} (h : fs[i]? = some f) : wtF (fs.drop i) = wtV f.v + wtF (fs.drop (i + 1)) := by
 have hi := (List.getElem?_eq_some_iff.1 h)
 obtain ⟨hl, he⟩ := hi
 rw [bc hl, he]; obtain ⟨n, v⟩ := f; rfl
theorem au8 {v : List Tm} {i : Nat} {t : Tm} (h : v[i]? = some t) : wtV (v.drop i) = 1 + wtF t.fs + wtV (v.drop (i + 1)) := by
 have hi := (List.getElem?_eq_some_iff.1 h)
 obtain ⟨hl, he⟩ := hi
 rw [bc hl, he, wtV, aky]
theorem ag0 {a b : Nat} (h : a + b < 9223372036854775807) : w64 ((a : Int) + (b : Int)) = ((a + b : Nat) : Int) := by rw [xn (by omega)]; omega
theorem art (v : List Tm) (n j : Nat) (t : Tm) (hj : v[j]? = some t) (hl : v.length ≤ 1073741824) (hb : szF t.fs ≤ 1073741824)
  (h : ∀ f ∈ t.fs, ca (.agg 1 [.sl 8 (ak f.v)]) = some (.int .i64 (wtV f.v)))
  (hn : n ≤ 4294967296)
  (next : ∀ m : Nat, m = n + wtF t.fs → ca.l0 (.boxv 1 [.sl 8 (ak v)] []) (.int .i64 (m : Int)) (.int .i64 ((j + 1 : Nat) : Int)) = some (.int .i64 ((m + wtV (v.drop (j + 1)) : Nat) : Int))) :
  ∀ (d i m : Nat), i + d = t.fs.length → m + wtF (t.fs.drop i) = n + wtF t.fs → ca.l1 (.boxv 1 [.sl 8 (ak v)] []) (.int .i64 (m : Int)) (.int .i64 (j : Int)) (.sl 2 (cb t.fs)) (.int .i64 (i : Int)) = some (.int .i64 ((n + wtF t.fs + wtV (v.drop (j + 1)) : Nat) : Int))
 | 0, i, m, hi, hm => by
  rw [ca.ib, ed, decide_eq_false (by omega), ifF]
  rw [bw (by omega), wtF] at hm
  have hj' : j < v.length := (List.getElem?_eq_some_iff.1 hj).1
  rw [bf (by omega), next m (by omega), ← hm]; rfl
 | d + 1, i, m, hi, hm => by
  have h1' : i < t.fs.length := by omega
  have e1 : t.fs[i]? = some t.fs[i] := List.getElem?_eq_getElem h1'
  have hc := h _ (List.getElem_mem h1')
  have hl := ie t.fs
  have hs := mv e1
  have hw := ajo t.fs[i].v
  have hk := akz e1
  have hF := (aff _).1 t.fs (Nat.le_refl _)
  rw [ca.ib, ed, decide_eq_true (by omega), ifT, ay (fo e1), h1, hc]
  simp only [ad, dn]
  rw [bf (by omega), ag0 (by omega), art v n j t hj ‹_› hb h hn next d (i + 1) _ (by omega) (by omega)]
theorem ad4 (v : List Tm) (hl : szV v ≤ 1073741824) (h : ∀ t ∈ v, ∀ f ∈ t.fs, ca (.agg 1 [.sl 8 (ak f.v)]) = some (.int .i64 (wtV f.v))) :
  ∀ (d i n : Nat), i + d = v.length → n + wtV (v.drop i) ≤ wtV v → ca.l0 (.boxv 1 [.sl 8 (ak v)] []) (.int .i64 (n : Int)) (.int .i64 (i : Int)) = some (.int .i64 ((n + wtV (v.drop i) : Nat) : Int))
 | 0, i, n, hi, hn => by
  rw [ca.ar]
  simp only [v0, jr, di]
  rw [decide_eq_false (by omega), ifF, bw (by omega), wtV]; rfl
 | d + 1, i, n, hi, hn => by
  have h1' : i < v.length := by omega
  have e1 : v[i]? = some v[i] := List.getElem?_eq_getElem h1'
  have hlen := fx v
  have hs := pn e1
  rw [fq] at hs
  have hw := ajo v
  have hk := au8 e1
  rw [ca.ar]
  simp only [v0, jr, di, ay (jc e1), g7, lx]
  rw [decide_eq_true (by omega), ifT, bf (by omega)]
  have := art v (n + 1) i v[i] e1 (by omega) (by omega) (h _ (List.getElem_mem h1')) (by omega) (fun m hm => ad4 v hl h d (i + 1) m (by omega) (by omega)) v[i].fs.length 0 (n + 1) (by omega) (by rw [List.drop_zero])
  have e0 : ((0 : Nat) : Int) = 0 := rfl
  rw [e0] at this
  rw [this, hk]
  congr 3
  omega
theorem aru : ∀ (n : Nat) (v : List Tm), szV v ≤ n → n ≤ 1073741824 → ca (.agg 1 [.sl 8 (ak v)]) = some (.int .i64 (wtV v))
 | 0, v, h, hn => by
  have hl := fx v
  obtain rfl : v = [] := List.eq_nil_of_length_eq_zero (by omega)
  exact (ca.ae _).trans (ad4 [] (by simp [szV]) (fun t ht => by cases ht) 0 0 0 rfl (by simp))
 | n + 1, v, h, hn => by
  have := ad4 v (by omega) (fun t ht f hf => aru n f.v (by
   obtain ⟨i, hi⟩ := List.getElem?_of_mem ht
   obtain ⟨k, hk⟩ := List.getElem?_of_mem hf
   have h1 := pn hi
   have h2 := mv hk
   rw [fq] at h1
   omega) (by omega)) v.length 0 0 (by omega) (by simp)
  rw [ca.ae]
  rw [List.drop_zero, Nat.zero_add] at this
  exact this
end Go.Proofs.YtmdimhcjogjcgaaGreatDoor.Lat
namespace Go.Proofs.YtmdimhcjogjcgaaGreatDoor.Lat
open Go.Proofs.YtmdimhcjogjcgaaGreatDoor.Abs
theorem e00 : ((0 : Nat) : Int) = 0 := rfl
theorem arv (t : Tm) : dpT t = dpF t.fs := by cases t; rfl
theorem au9 {fs : List Fd} {i : Nat} {f : Fd} (h : fs[i]? = some f) : dpF (fs.drop i) = max (dpV f.v + 1) (dpF (fs.drop (i + 1))) := by
 obtain ⟨hl, he⟩ := List.getElem?_eq_some_iff.1 h
 rw [bc hl, he]; obtain ⟨n, v⟩ := f; rfl
theorem ava {v : List Tm} {i : Nat} {t : Tm} (h : v[i]? = some t) : dpV (v.drop i) = max (dpF t.fs) (dpV (v.drop (i + 1))) := by
 obtain ⟨hl, he⟩ := List.getElem?_eq_some_iff.1 h
 rw [bc hl, he, dpV, arv]
theorem arw : ∀ n, (∀ fs : List Fd, szF fs ≤ n → dpF fs ≤ szF fs) ∧ (∀ v : List Tm, szV v ≤ n → dpV v ≤ szV v)
 | 0 => by
  refine ⟨fun fs h => ?_, fun v h => ?_⟩
  ·have := ie fs
   obtain rfl : fs = [] := List.eq_nil_of_length_eq_zero (by omega)
   simp [dpF]
  ·have := fx v
   obtain rfl : v = [] := List.eq_nil_of_length_eq_zero (by omega)
   simp [dpV]
 | n + 1 => by
  obtain ⟨hF, hV⟩ := arw n
  have hF' : ∀ fs : List Fd, szF fs ≤ n + 1 → dpF fs ≤ szF fs := fun fs => by
   induction fs with
   | nil => intro _; simp [dpF]
   | cons f r ih => obtain ⟨m, v⟩ := f; intro h; rw [szF] at h; rw [dpF, szF]; have := hV v (by omega); have := ih (by omega); omega
  refine ⟨hF', fun v => ?_⟩
  induction v with
  | nil => intro _; simp [dpV]
  | cons t r ih => intro h; rw [szV, fq] at h; rw [dpV, szV, fq, arv]; have := hF t.fs (by omega); have := ih (by omega); omega
theorem a5x (v : List Tm) : dpV v ≤ szV v := (arw _).2 v (Nat.le_refl _)
theorem qb {v : List Tm} {t : Tm} {f : Fd} (ht : t ∈ v) (hf : f ∈ t.fs) : szV f.v + 2 ≤ szV v := by
 obtain ⟨i, hi⟩ := List.getElem?_of_mem ht
 obtain ⟨k, hk⟩ := List.getElem?_of_mem hf
 have h1 := pn hi
 have h2 := mv hk
 rw [fq] at h1
 omega
def wtS : List Tm → Nat
 | [] => 0
 | t :: r => wtF t.fs + wtS r
theorem ag1 : ∀ v : List Tm, wtV v = v.length + wtS v
 | [] => rfl
 | t :: r => by rw [wtV, wtS, ag1 r, aky, List.length_cons]; omega
theorem avb {v : List Tm} {i : Nat} {t : Tm} (h : v[i]? = some t) : wtS (v.drop i) = wtF t.fs + wtS (v.drop (i + 1)) := by
 obtain ⟨hl, he⟩ := List.getElem?_eq_some_iff.1 h
 rw [bc hl, he, wtS]
theorem arx (v : List Tm) (n j : Nat) (t : Tm) (hj : v[j]? = some t) (hl : v.length ≤ 1073741824) (hb : szF t.fs ≤ 1073741824)
  (h : ∀ f ∈ t.fs, cm (.agg 1 [.sl 8 (ak f.v)]) = some (.int .i64 (wtV f.v)))
  (hn : n ≤ 4294967296)
  (next : ∀ m : Nat, m = n + wtF t.fs → cm.l0 (.int .i64 (m : Int)) (.sl 8 (ak v)) (.int .i64 (v.length : Int)) (.int .i64 ((j + 1 : Nat) : Int)) = some (.int .i64 ((m + wtS (v.drop (j + 1)) : Nat) : Int))) :
  ∀ (d i m : Nat), i + d = t.fs.length → m + wtF (t.fs.drop i) = n + wtF t.fs → cm.l1 (.int .i64 (m : Int)) (.sl 8 (ak v)) (.int .i64 (v.length : Int)) (.int .i64 (j : Int)) (.sl 2 (cb t.fs)) (.int .i64 (t.fs.length : Int)) (.int .i64 (i : Int)) = some (.int .i64 ((n + wtF t.fs + wtS (v.drop (j + 1)) : Nat) : Int))
 | 0, i, m, hi, hm => by
  rw [cm.ib, decide_eq_false (by omega), ifF]
  rw [bw (by omega), wtF] at hm
  have hj' : j < v.length := (List.getElem?_eq_some_iff.1 hj).1
  rw [bf (by omega), next m (by omega), ← hm]; rfl
 | d + 1, i, m, hi, hm => by
  have h1' : i < t.fs.length := by omega
  have e1 : t.fs[i]? = some t.fs[i] := List.getElem?_eq_getElem h1'
  have hc := h _ (List.getElem_mem h1')
  have hl := ie t.fs
  have hs := mv e1
  have hw := ajo t.fs[i].v
  have hk := akz e1
  have hF := (aff _).1 t.fs (Nat.le_refl _)
  rw [cm.ib, decide_eq_true (by omega), ifT, ay (fo e1), h1]
  simp only [frz]
  rw [hc]
  simp only [ad, dn]
  rw [bf (by omega), ag0 (by omega), arx v n j t hj ‹_› hb h hn next d (i + 1) _ (by omega) (by omega)]
theorem ak0 (v : List Tm) (hl : szV v ≤ 1073741824) (h : ∀ t ∈ v, ∀ f ∈ t.fs, cm (.agg 1 [.sl 8 (ak f.v)]) = some (.int .i64 (wtV f.v))) :
  ∀ (d i n : Nat), i + d = v.length → n + wtS (v.drop i) ≤ wtV v → cm.l0 (.int .i64 (n : Int)) (.sl 8 (ak v)) (.int .i64 (v.length : Int)) (.int .i64 (i : Int)) = some (.int .i64 ((n + wtS (v.drop i) : Nat) : Int))
 | 0, i, n, hi, hn => by
  rw [cm.ar, decide_eq_false (by omega), ifF, bw (by omega), wtS]; rfl
 | d + 1, i, n, hi, hn => by
  have h1' : i < v.length := by omega
  have e1 : v[i]? = some v[i] := List.getElem?_eq_getElem h1'
  have hlen := fx v
  have hs := pn e1
  rw [fq] at hs
  have hw := ajo v
  have hk := avb e1
  rw [cm.ar]
  simp only [ay (jc e1), g7, lx]
  rw [decide_eq_true (by omega), ifT, ed]
  have := arx v n i v[i] e1 (by omega) (by omega) (h _ (List.getElem_mem h1')) (by omega) (fun m hm => ak0 v hl h d (i + 1) m (by omega) (by omega)) v[i].fs.length 0 n (by omega) (by rw [List.drop_zero])
  rw [e00] at this
  rw [this, hk]
  congr 3
  omega
theorem ak1 : ∀ (n : Nat) (v : List Tm), szV v ≤ n → n ≤ 1073741824 → cm (.agg 1 [.sl 8 (ak v)]) = some (.int .i64 (wtV v))
 | n, v, h, hn => by
  have := ak0 v (by omega) (fun t ht f hf => ak1 (n - 1) f.v (by have := qb ht hf; omega) (by omega)) v.length 0 v.length (by omega) (by rw [List.drop_zero, ag1]; omega)
  rw [cm.ae]
  simp only [v0, jr, di]
  rw [List.drop_zero, ← ag1] at this
  exact this
termination_by n v => szV v
decreasing_by have := qb ht hf; omega
theorem avc (s : Bs) : sj (.str s) = some (.int .i64 (Nam.kg s)) := by
 rw [sj.ae]
 unfold Nam.kg
 by_cases h1 : s = [97, 110, 121]
 ·simp [h1, ifT]
 by_cases h2 : s = [98, 111, 111, 108]
 ·simp [h2, ifT, ifF]
 by_cases h3 : s = [99, 111, 109, 112, 117, 116, 101, 100]
 ·simp [h3, ifT, ifF]
 by_cases h4 : s = [102, 97, 108, 115, 101]
 ·simp [h4, ifT, ifF]
 by_cases h5 : s = [105, 110, 116]
 ·simp [h5, ifT, ifF]
 by_cases h6 : s = [110, 111, 110, 101]
 ·simp [h6, ifT, ifF]
 by_cases h7 : s = [114, 101, 115, 111, 117, 114, 99, 101]
 ·simp [h7, ifT, ifF]
 by_cases h8 : s = [115, 116, 114, 105, 110, 103]
 ·simp [h8, ifT, ifF]
 by_cases h9 : s = [116, 114, 117, 101]
 ·simp [h9, ifT, ifF]
 simp [h1, h2, h3, h4, h5, h6, h7, h8, h9, ifF]
theorem ayg (s : Bs) : 0 ≤ Nam.kg s := by
 unfold Nam.kg
 repeat' split
 all_goals decide
theorem a5y (c : UInt8) : (!((!(decide (97 ≤ (c.toNat : Int)) && decide ((c.toNat : Int) ≤ 122)) && !(decide (48 ≤ (c.toNat : Int)) && decide ((c.toNat : Int) ≤ 57))) && !decide ((c.toNat : Int) = 95))) = Nam.chB false c.toNat := by
 unfold Nam.chB Nam.xj
 rw [Bool.eq_iff_iff]
 simp
 omega
theorem adm (s : Bs) (hs : s.length ≤ 1073741824) : ∀ (d i : Nat), i + d = s.length → er.l0 (.str s) (.int .i64 (i : Int)) = some (.bool (Nam.ym (s.drop i)))
 | 0, i, h => by
  rw [er.ar, decide_eq_false (by omega), ifF, bw (by omega)]; rfl
 | d + 1, i, h => by
  have h1' : i < s.length := by omega
  have e1 : s[i]? = some s[i] := List.getElem?_eq_getElem h1'
  rw [er.ar, decide_eq_true (by omega), ifT, bc h1']
  simp only [ay e1, j8, ad]
  rw [bf (by omega), adm s hs d (i + 1) (by omega)]
  have hc := a5y s[i]
  generalize (!decide ((s[i].toNat : Int) = 95)) = z at hc ⊢
  generalize (!(decide (97 ≤ (s[i].toNat : Int)) && decide ((s[i].toNat : Int) ≤ 122)) && !(decide (48 ≤ (s[i].toNat : Int)) && decide ((s[i].toNat : Int) ≤ 57))) = y at hc ⊢
  rw [show Nam.ym (s[i] :: s.drop (i + 1)) = (Nam.chB false s[i].toNat && Nam.ym (s.drop (i + 1))) from rfl, ← hc]
  cases y <;> cases z <;> rfl
theorem ary (s : Bs) : er (.str s) = some (.bool (Nam.ek s)) := by
 rw [er.ae]
 simp only [orK, ad, avc, dn]
 have hw : decide (0 < Nam.kg s) = !(Nam.kg s == 0) := by
  have := ayg s
  rw [Bool.eq_iff_iff]; simp; omega
 rw [hw]
 cases s with
 | nil =>
  unfold Nam.ek
  simp [ifT, ad]
 | cons c r =>
  have e1 : (c :: r)[0]? = some c := rfl
  have i0 : ∀ {β : Type} (k : UInt8 → Option β), idx (c :: r) 0 k = k c := fun k => ay (j := 0) e1 k
  simp only [i0, orK, ad]
  by_cases hs : 16 < (c :: r).length
  ·unfold Nam.ek
   rw [decide_eq_true (p := (16 : Int) < ((c :: r).length : Int)) (by omega), decide_eq_false (p := (c :: r).length ≤ 16) (by omega)]
   simp [ifT]
  have hl := adm (c :: r) (by omega) r.length 1 (by simp; omega)
  rw [show ((1 : Nat) : Int) = 1 from rfl] at hl
  rw [hl, show (c :: r).drop 1 = r from rfl]
  unfold Nam.ek
  rw [show Nam.aal (c :: r) = (Nam.chB true c.toNat && Nam.ym r) from rfl]
  unfold Nam.chB Nam.xj
  generalize (Nam.kg (c :: r) == 0) = x
  generalize Nam.ym r = y
  generalize (c :: r).length = n
  generalize c.toNat = q
  have a1 : decide ((n : Int) < 1) = !decide (1 ≤ n) := by rw [Bool.eq_iff_iff]; simp <;> omega
  have a2 : decide (16 < (n : Int)) = !decide (n ≤ 16) := by rw [Bool.eq_iff_iff]; simp <;> omega
  have a3 : decide ((q : Int) < 97) = !decide (97 ≤ q) := by rw [Bool.eq_iff_iff]; simp <;> omega
  have a4 : decide (122 < (q : Int)) = !decide (q ≤ 122) := by rw [Bool.eq_iff_iff]; simp <;> omega
  rw [a1, a2, a3, a4]
  generalize decide (1 ≤ n) = b1
  generalize decide (n ≤ 16) = b2
  generalize decide (97 ≤ q) = b3
  generalize decide (q ≤ 122) = b4
  cases b1 <;> cases b2 <;> cases b3 <;> cases b4 <;> cases x <;> cases y <;> rfl
theorem aas (s : Bs) : vu (.str s) = some (.bool (Nam.ek s)) := ah6 (f := 101) rfl _
def uh (fs : List Fd) (i : Nat) : Option Bs := if i = 0 then none else (fs[i - 1]?).map Fd.n
theorem afg {fs : List Fd} {i : Nat} {f : Fd} (h : fs[i]? = some f) : uh fs (i + 1) = some f.n := by
 unfold uh
 rw [if_neg (by omega), Nat.add_sub_cancel, h]; rfl
theorem tm {n : Nat} (h : n < 9223372036854775807) (h0 : 0 < n) : w64 ((n : Int) - 1) = ((n - 1 : Nat) : Int) := by rw [xn (by omega)]; omega
theorem aby (R : Bs → Bool) (p : Option Bs) (f : Fd) (r : List Fd) : ij R p (f :: r) = (R f.n && ub p f.n && ij R (some f.n) r) := by cases f; rfl
abbrev ag2 (fs : List Fd) : List (List AV) := fs.map fun f => [AV.str f.n]
theorem an1 {fs : List Fd} {i : Nat} {f : Fd} (h : fs[i]? = some f) : (ag2 fs)[i]? = some [AV.str f.n] := by rw [ag2, List.getElem?_map, h]; rfl
theorem arz (a b : Bs) : (ai b a || decide (b = a)) = !ai a b := by
 cases h : ai a b with
 | true =>
  have := aae a b h
  rw [this]
  have : ¬ b = a := fun e => by subst e; rw [ic] at h; cases h
  simp [this]
 | false =>
  cases h2 : ai b a with
  | true => rfl
  | false => have := qz a b h h2; simp [this]
theorem ah9 (fs : List Fd) (hl : fs.length ≤ 1073741824) : ∀ (d i : Nat), i + d = fs.length → gw.l0 (.sl 2 (cb fs)) (.sl 2 (cb fs)) (.int .i64 (fs.length : Int)) (.int .i64 (i : Int)) = some (.bool (ij Nam.ek (uh fs i) (fs.drop i)))
 | 0, i, h => by
  rw [gw.ar, decide_eq_false (by omega), ifF, bw (by omega)]; rfl
 | d + 1, i, h => by
  have h1' : i < fs.length := by omega
  have e1 : fs[i]? = some fs[i] := List.getElem?_eq_getElem h1'
  have ih := ah9 fs hl d (i + 1) (by omega)
  rw [afg e1] at ih
  rw [gw.ar, decide_eq_true (by omega), ifT, bc h1', aby]
  simp only [ay (fo e1), h0, gx, aas, ad, en]
  rw [bf (by omega), ih]
  by_cases hi0 : i = 0
  ·subst hi0
   rw [e00, decide_eq_false (by omega), ifF]
   simp only [orK, ad]
   cases Nam.ek fs[0].n <;> simp [ifT, ifF, uh, ub]
  ·have e2 : fs[i - 1]? = some fs[i - 1] := List.getElem?_eq_getElem (by omega)
   rw [decide_eq_true (by omega), ifT, tm (by omega) (by omega)]
   simp only [ay (fo e2), h0, gx, ad, orK, arz]
   have : uh fs i = some fs[i - 1].n := by unfold uh; rw [if_neg hi0, e2]; rfl
   rw [this, ub]
   cases Nam.ek fs[i].n <;> cases ai fs[i - 1].n fs[i].n <;> simp [ifT, ifF]
theorem ayh (fs : List Fd) (hl : fs.length ≤ 1073741824) : gw (.sl 2 (cb fs)) = some (.bool (ij Nam.ek none fs)) := by
 rw [gw.ae, ed]
 exact ah9 fs hl fs.length 0 (by omega)
end Go.Proofs.YtmdimhcjogjcgaaGreatDoor.Lat
