/- The program's rightness of a state. -/
import Derived.Test.YtmdimhcjogjcgaaGreatDoorGba
import Derived.Test.YtmdimhcjogjcgaaGreatDoorGbb
import Derived.Test.YtmdimhcjogjcgaaGreatDoorGaz
set_option linter.all false
set_option maxRecDepth 100000
set_option maxHeartbeats 8000000
noncomputable section
namespace Go.Proofs.YtmdimhcjogjcgaaGreatDoor.Lat
open Go.Proofs.YtmdimhcjogjcgaaGreatDoor.Abs Go.Proofs.YtmdimhcjogjcgaaGreatDoor.Gr
theorem aju {α : Type} (c : List AV) (k : List AV → Option α) : asC 1 (.agg 1 c) k = k c := rfl
theorem a8q (t : Tm) : [ah t] = ak [t] := by rw [je]; rfl
theorem bx {α : Type} (l2 l3 : List (List AV)) (x : α) : True := trivial
theorem amh (t : Tm) (hs : szV [t] ≤ 1073741824) (hok : ∀ f ∈ t.fs, okV Rn f.v = true) (m : Int) (l2 l3 : List (List AV)) (r : Option AV) (hr : ee.l0 (.sl 8 [ah t]) (.boxv 1 [.sl 8 l2] [(0, .own 8 l3)]) (.int .i64 m) (.sl 8 [ah t]) (.int .i64 1) (.int .i64 1) = r) :
  ∀ (d i : Nat), i + d = t.fs.length → ee.l1 (.sl 8 [ah t]) (.boxv 1 [.sl 8 l2] [(0, .own 8 l3)]) (.int .i64 m) (.sl 8 [ah t]) (.int .i64 1) (.int .i64 0) (.sl 2 (cb t.fs)) (.int .i64 (t.fs.length : Int)) (.int .i64 (i : Int)) = r
 | 0, i, h => by
  rw [ee.ib, decide_eq_false (by omega), ifF]
  exact hr
 | d + 1, i, h => by
  have h1' : i < t.fs.length := by omega
  have e1 : t.fs[i]? = some t.fs[i] := List.getElem?_eq_getElem h1'
  have hm := List.getElem_mem h1'
  have hsz : szV t.fs[i].v ≤ 1073741824 := by
   have := qb (v := [t]) (List.mem_cons_self ..) hm
   omega
  have hR : qg (.agg 1 [.sl 8 (ak t.fs[i].v)]) = some (.bool (okV Rn t.fs[i].v)) := acd (ab0 _ hsz)
  have hlen := ie t.fs
  have hs2 := oe (v := [t]) (List.mem_cons_self ..)
  rw [fq] at hs2
  rw [ee.ib, decide_eq_true (by omega), ifT, ay (fo e1), h1]
  simp only [frz, hR, hok _ hm, ad, en]
  rw [Bool.not_true, ifF, bf (by omega)]
  exact amh t hs hok m l2 l3 r hr d (i + 1) (by omega)
theorem a6h (t : Tm) (hs : szV [t] ≤ 1073741824) (h4 : t.k = 4) (hok : okV Rn [t] = true) : ee (.sl 8 [ah t]) = some (.tup [.agg 1 [.sl 8 [ah t]], .int .i64 0]) := by
 have hok' := hok
 unfold okV at hok'
 simp only [Bool.and_eq_true] at hok'
 obtain ⟨⟨⟨hlim, hL⟩, _⟩, _⟩ := hok'
 unfold za at hlim
 simp only [Bool.and_eq_true, decide_eq_true_eq] at hlim
 have hT := ag5 _ hL t (List.mem_cons_self ..)
 have hwt : wtT t ≤ 512 := by have := hlim.1; simp only [wtV] at this; omega
 have hdp : dpT t ≤ 15 := by have := hlim.2; simp only [depth, dpV] at this; omega
 have hfs : ∀ f ∈ t.fs, okV Rn f.v = true := by
  have h := hT
  rw [abz, if_neg (by omega), if_pos h4, Bool.and_eq_true] at h
  exact fun f hf => ag6 _ h.2 f hf
 have hsz := oe (v := [t]) (List.mem_cons_self ..)
 have hsh : x4 (.agg 8 (ah t)) (.int .i64 17) = some (.bool true) := by
  refine ajb ((aie t 17 (by omega) (by omega) fun f hf => ak8 1073741824 (Nat.le_refl _) f.v _ (by omega) (by have := qb (v := [t]) (List.mem_cons_self ..) hf; omega)).trans ?_)
  rw [aqx Rn t 17 hwt (by omega), ← aqv Rn t hwt hdp, hT]
 have hde : x5 (.agg 1 [.sl 8 [ah t]]) = some (.int .i64 (depth [t] : Nat)) := by
  have := ar9 1073741824 [t] hs (Nat.le_refl _)
  rw [← a8q] at this
  exact ajc this
 have hlen := ie t.fs
 rw [fq] at hsz
 have hset : ace (.sl 8 [ah t]) = some (.tup [.agg 1 [.sl 8 [ah t]], .int .i64 0]) := awg hs hlim.1
 have hlast : ∀ m : Int, m ≤ 16 → ee.l0 (.sl 8 [ah t]) (.boxv 1 [.sl 8 []] [(0, .own 8 [])]) (.int .i64 m) (.sl 8 [ah t]) (.int .i64 1) (.int .i64 1) = some (.tup [.agg 1 [.sl 8 [ah t]], .int .i64 0]) := fun m hm => by
  rw [ee.ar, decide_eq_false (by omega), ifF, decide_eq_false (by omega), ifF, hset]; rfl
 have hd16 : max (1 : Int) ((depth [t] : Nat) : Int) ≤ 16 := by have := hlim.2; omega
 have hgo := amh t hs hfs (max (1 : Int) ((depth [t] : Nat) : Int)) [] [] _ (hlast _ hd16) t.fs.length 0 (by omega)
 rw [e00] at hgo
 rw [ee.ae]
 rw [show ((([ah t] : List (List AV)).length : Nat) : Int) = 1 from rfl, decide_eq_false (by omega), ifF, ee.ar, decide_eq_true (by omega), ifT]
 rw [show ∀ (q : List AV → Option AV), idx [ah t] 0 q = q (ah t) from fun q => ay (j := 0) (l := [ah t]) rfl q, hsh]
 simp only [ad, en]
 rw [Bool.not_true, ifF, hde]
 simp only [ad, dn]
 rw [g7, lx, ed]
 exact hgo
theorem azg (v : List Tm) (hv : szV v ≤ 1073741824) : ∃ (k e : Int) (c : List AV), sr (.agg 1 [.sl 8 (ak v)]) = some (.tup [.agg 8 (.int .i64 k :: c), .int .i64 e]) ∧ (decide (e = 0) && decide (k = 4)) = apt v := by
 have hR : qg (.agg 1 [.sl 8 (ak v)]) = some (.bool (okV Rn v)) := acd (ab0 _ hv)
 rw [sr.ae, hR]
 simp only [ad, en]
 unfold apt
 cases hok : okV Rn v with
 | false => exact ⟨0, 1, _, rfl, rfl⟩
 | true =>
  rw [Bool.not_true, ifF, Bool.true_and]
  have hone : ∀ r, ky (.agg 1 [.sl 8 (ak v)]) = some r → aa8 (.agg 1 [.sl 8 (ak v)]) = some r := fun r h => ang h
  match v with
  | [] =>
   rw [hone (.tup [.agg 8 [.int .i64 0, .int .i64 0, .int .i64 0, .str [], .bool false, .bool false, .bool false, .sl 2 []], .int .i64 31]) (by rw [ky.ae]; rfl)]
   exact ⟨0, 31, _, rfl, rfl⟩
  | t :: u :: r =>
   rw [hone (.tup [.agg 8 [.int .i64 0, .int .i64 0, .int .i64 0, .str [], .bool false, .bool false, .bool false, .sl 2 []], .int .i64 28]) (by
    rw [ky.ae]
    simp only [v0, jr, di]
    rw [decide_eq_false (by simp <;> omega), ifF, decide_eq_true (by simp <;> omega)]; rfl)]
   exact ⟨0, 28, _, rfl, rfl⟩
  | [t] =>
   have e1 : decide ((([t] : List Tm).length : Int) = 0) = false := by simp
   have e2 : decide ((1 : Int) < (([t] : List Tm).length : Int)) = false := by simp
   by_cases h5 : t.k = 5
   ·rw [hone (.tup [.agg 8 [.int .i64 0, .int .i64 0, .int .i64 0, .str [], .bool false, .bool false, .bool false, .sl 2 []], .int .i64 28]) (by
     rw [ky.ae]
     simp only [v0, jr, di]
     rw [e1, ifF, e2, ifF]
     simp only [api, g0, dn, ad]
     rw [decide_eq_true h5, ifT])]
    refine ⟨0, 28, _, rfl, ?_⟩
    simp [h5]
   ·rw [hone (.tup [.agg 8 (ah t), .int .i64 0]) (by
     rw [ky.ae]
     simp only [v0, jr, di]
     rw [e1, ifF, e2, ifF]
     simp only [api, g0, dn, ad]
     rw [decide_eq_false h5, ifF])]
    simp only [ad, ajn, ape, dn]
    simp only [decide_true]
    rw [ifT, g0]
    simp only [dn, ad]
    by_cases h4 : t.k = 4
    ·rw [decide_eq_true h4, ifT, a6h t hv h4 hok]
     obtain ⟨k, lo, hi, s, a, m, o, fs⟩ := t
     refine ⟨k, 0, _, rfl, ?_⟩
     have h4' : k = 4 := h4
     show (true && decide (k = 4)) = true
     rw [decide_eq_true h4']; rfl
    ·rw [decide_eq_false h4, ifF]
     obtain ⟨k, lo, hi, s, a, m, o, fs⟩ := t
     refine ⟨k, 0, _, rfl, ?_⟩
     have h4' : ¬ k = 4 := h4
     show (true && decide (k = 4)) = false
     rw [decide_eq_false h4']; rfl
theorem azh (t : Th) (ht : zf t) : pe (.agg 3 (ui t)) = some (.bool (Rn t.n && gR t)) := by
 obtain ⟨k, e, c, hO, hk⟩ := azg t.v ht.v
 have hN : mg (.str t.n) = some (.bool (Rn t.n)) := abf (aas t.n)
 have hS : tr (.agg 1 [.sl 8 (ak t.v)]) = some (.bool (okV Rn t.v && seL false t.v)) := af2 (am7 t.v ht.v)
 have hR : vk (.sl 1 (br t.d)) = some (.bool (aaw t.d)) := ahk (ayq t.d (by have := ht.d; omega))
 have hC : jx (.sl 1 (br t.d)) (.str t.n) = some (.bool (decide (t.n ∈ t.d))) := vm (am8 t.d (by have := ht.d; omega) t.n)
 rw [pe.ae, th1]
 simp only [frz, hO, ad, ajn]
 rw [show ∀ (q : List AV → Option AV), asC 8 (.agg 8 (.int .i64 k :: c)) q = q (.int .i64 k :: c) from fun q => rfl]
 simp only [dn, ow, th0, th1, th2, frz, hN, hS, hR, hC, gx, ac8, ad, en, j8]
 have hg : gR t = (apt t.v && (okV Rn t.v && seL false t.v) && aaw t.d && !decide (t.n ∈ t.d)) := rfl
 rw [hg, ← hk]
 cases Rn t.n <;> cases decide (e = 0) <;> cases decide (k = 4) <;> cases (okV Rn t.v && seL false t.v) <;> cases aaw t.d <;> cases decide (t.n ∈ t.d) <;> rfl
def aa9 (ts : List Th) (i : Nat) : Option Bs := if i = 0 then none else (ts[i - 1]?).map (·.n)
theorem aqg {ts : List Th} {i : Nat} {t : Th} (h : ts[i]? = some t) : aa9 ts (i + 1) = some t.n := by
 unfold aa9; rw [if_neg (by omega), Nat.add_sub_cancel, h]; rfl
theorem azi (t : Th) (ts : List Th) : fsD (vj (t :: ts)) = .mk t.n [] :: fsD (vj ts) := by simp [fsD, vj]
theorem vr (ts : List Th) (hl : ts.length ≤ 256) (hs : ∀ t ∈ ts, zf t) : ∀ (d i : Nat), i + d = ts.length → ew.l0 (.sl 3 (cf ts)) (.sl 3 (cf ts)) (.int .i64 (ts.length : Int)) (.int .i64 (i : Int)) = some (.bool ((ts.drop i).all gR && ij Rn (aa9 ts i) (fsD (vj (ts.drop i))) && !kq (tds ts)))
 | 0, i, h => by
  have hr : abg (.sl 3 (cf ts)) = some (.bool (kq (tds ts))) := aza ⟨by omega, fun t ht => ⟨by have := (hs t ht).d; omega, by have := (hs t ht).n; unfold maxLen; omega⟩⟩
  rw [ew.ar, decide_eq_false (by omega), ifF, hr, bw (by omega)]
  simp only [ad, en]
  cases aa9 ts i <;> rfl
 | d + 1, i, h => by
  have h1 : i < ts.length := by omega
  have e1 : ts[i]? = some ts[i] := List.getElem?_eq_getElem h1
  have ih := vr ts hl hs d (i + 1) (by omega)
  rw [aqg e1] at ih
  rw [ew.ar, decide_eq_true (by omega), ifT, ay (ir e1), azh _ (hs _ (List.getElem_mem h1)), bc h1, List.all_cons, azi, aby]
  simp only [ad, en]
  rw [bf (by omega), ih]
  have hn : (Fd.mk ts[i].n []).n = ts[i].n := rfl
  rw [hn]
  by_cases hi0 : i = 0
  ·subst hi0
   rw [e00, decide_eq_false (by omega), ifF]
   have hp : aa9 ts 0 = none := rfl
   rw [hp]
   simp only [ad, orK]
   cases Rn ts[0].n <;> cases gR ts[0] <;> simp [ifT, ifF, ub, ad]
  ·have e2 : ts[i - 1]? = some ts[i - 1] := List.getElem?_eq_getElem (by omega)
   rw [decide_eq_true (by omega), ifT, th0, tm (by omega) (by omega)]
   simp only [gx, ay (ir e2), th0, ad, orK]
   have hp : aa9 ts i = some ts[i - 1].n := by unfold aa9; rw [if_neg hi0, e2]; rfl
   rw [hp, ub, arz]
   cases Rn ts[i].n <;> cases gR ts[i] <;> cases ai ts[i - 1].n ts[i].n <;> simp [ifT, ifF, ad]
theorem ata (ts : List Th) (hl : ts.length ≤ 256) (hs : ∀ t ∈ ts, zf t) : ew (.sl 3 (cf ts)) = some (.bool (ts.all gR && aaw (vj ts) && !kq (tds ts))) := by
 have := vr ts hl hs ts.length 0 (by omega)
 rw [e00, List.drop_zero] at this
 rw [ew.ae, pa, decide_eq_false (by omega), ifF, this]; rfl
def kf (ts : List Th) : Bool := ts.all gR && aaw (vj ts) && !kq (tds ts)
def fd1 (l : List Bs) (deep : Bool) (t : Th) : List Hit := match l with
 | [] => []
 | x :: r => if x = [42] ∨ x = t.n then wkV t.n r deep t.v else []
def fds (l : List Bs) (deep : Bool) (ts : List Th) : List Hit := ts.flatMap (fd1 l deep)
def fdV (ts : List Th) (s : Bs) : List Hit × Int := if fk s = true then (if kf ts = true then (fds (ef (Qw.al s)).1 (ef (Qw.al s)).2 ts, 0) else ([], 1)) else ([], 2)
theorem aem {l : List Bs} {deep : Bool} {ts : List Th} {i : Nat} {t : Th} (h : ts[i]? = some t) : fds l deep (ts.take (i + 1)) = fds l deep (ts.take i) ++ fd1 l deep t := by
 rw [List.take_add_one, h]
 show fds l deep (ts.take i ++ [t]) = _
 rw [fds, List.flatMap_append, List.flatMap_cons, List.flatMap_nil, List.append_nil]; rfl
theorem azj {l : List Bs} {deep : Bool} {t : Th} (h : szV t.v ≤ 1024) : (fd1 l deep t).length ≤ 1025 := by
 unfold fd1
 split
 ·simp
 ·split
  ·have := azf t.n ‹_› deep t.v; omega
  ·simp
theorem aop {l : List Bs} {deep : Bool} : ∀ {ts : List Th}, (∀ t ∈ ts, szV t.v ≤ 1024) → (fds l deep ts).length ≤ 1025 * ts.length
 | [], h => by simp [fds]
 | t :: r, h => by
  have h1 := aop (l := l) (deep := deep) (ts := r) fun t ht => h t (List.mem_cons_of_mem _ ht)
  have h2 := azj (l := l) (deep := deep) (h t (List.mem_cons_self ..))
  have e : fds l deep (t :: r) = fd1 l deep t ++ fds l deep r := by rw [fds, List.flatMap_cons]; rfl
  rw [e, List.length_append, List.length_cons]; omega
mutual
theorem a3e : ∀ t : Tm, okT Rn t = true → nmT t = true
 | .mk k lo hi s a m o fs, h => by
  rw [nmT]
  rw [abz] at h
  split at h
  ·have : sc (.mk k lo hi s a m o fs) = true := h
   unfold sc at this
   simp only [Bool.and_eq_true, List.isEmpty_iff] at this
   rw [this.2]; rfl
  ·split at h
   ·rw [Bool.and_eq_true] at h
    have h1 := h.1
    unfold uc at h1
    dsimp only at h1
    rw [Bool.and_eq_true] at h1
    exact atb fs none h1.2 h.2
   ·have : ji (.mk k lo hi s a m o fs) = true := h
    have hn : ¬ (o || !fs.isEmpty || (m && single (.mk k lo hi s a m o fs))) = true := fun c => by
     unfold ji at this; dsimp only at this; rw [if_pos c] at this; cases this
    cases fs with
    | nil => rfl
    | cons x r => exact absurd (by simp) hn
theorem atb : ∀ (fs : List Lat.Fd) (p : Option Bs), ij Rn p fs = true → okF Rn fs = true → nmF fs = true
 | [], _, _, _ => by rw [nmF]
 | .mk n v :: r, p, h, k => by
  rw [aat] at k
  simp only [Bool.and_eq_true] at k
  have h' : (Rn n && ub p n && ij Rn (some n) r) = true := h
  simp only [Bool.and_eq_true] at h'
  rw [nmF, decide_eq_true (Xp.al9 h'.1.1), ami v (aau k.1.2), atb r _ h'.2 k.2]; rfl
theorem ami : ∀ v : List Tm, okL Rn v = true → nmL v = true
 | [], _ => by rw [nmL]
 | t :: r, h => by
  rw [okL, Bool.and_eq_true] at h
  rw [nmL, a3e t h.1, ami r h.2]; rfl
end
theorem aba {ts : List Th} (h : kf ts = true) : ∀ t ∈ ts, szV t.v ≤ 1024 ∧ nmL t.v = true ∧ t.n.length ≤ 16 := fun t ht => by
 unfold kf at h
 simp only [Bool.and_eq_true] at h
 have hg := List.all_eq_true.1 h.1.1 t ht
 unfold gR at hg
 simp only [Bool.and_eq_true] at hg
 exact ⟨Xp.a6f hg.1.1.2.1, ami _ (aau hg.1.1.2.1), Xp.ay5 h.1.2 t.n (List.mem_map.2 ⟨t, ht, rfl⟩)⟩
end Go.Proofs.YtmdimhcjogjcgaaGreatDoor.Lat
namespace Go.Proofs.YtmdimhcjogjcgaaGreatDoor.Qw
open Go.RowKit Go.Lib Go.Proofs.YtmdimhcjogjcgaaGreatDoor.Abs Go.Proofs.YtmdimhcjogjcgaaGreatDoor.Lat Go.Proofs.YtmdimhcjogjcgaaGreatDoor.Lat.Cp Go.Proofs.YtmdimhcjogjcgaaGreatDoor.Gr Go.Proofs.YtmdimhcjogjcgaaGreatDoor.Th
structure a8r (w : World) (c : Cls) (A : Option Addr) (i : Nat) (t : Th) : Prop where
 ex : ∃ g o s b1 n1 c1 b2 n2 c2, A = some ⟨g, o, none⟩ ∧ s.data.toList = t.n ∧ w.cell? ⟨g, o + i * 3, none⟩ = some (.string s) ∧ w.cell? ⟨g, o + i * 3 + 1, none⟩ = some (.slice b1 n1 c1) ∧ w.cell? ⟨g, o + i * 3 + 2, none⟩ = some (.slice b2 n2 c2) ∧
  Rep w c (.slice b1 n1 c1) (.sl 8 (ak t.v))
theorem a3f {w : World} {c : Cls} {v : Value} {l : List Th} (h : Rep w c v (.sl 3 (cf l))) : ∃ A cap, v = .slice A l.length cap ∧ ∀ i t, l[i]? = some t → a8r w c A i t := by
 obtain ⟨A, cap, rfl, _, _, hm⟩ := gz h
 rw [pa] at hm ⊢
 refine ⟨A, cap, rfl, fun i t hi => ?_⟩
 have hl := (List.getElem?_eq_some_iff.1 hi).1
 obtain ⟨g, o, rfl, _, f, hc, _, hr⟩ := hm (by omega)
 obtain ⟨s, e0, e1⟩ := gu (hr i 0 _ _ (ir hi) rfl)
 obtain ⟨A1, cap1, r1, _⟩ := gz (hr i 1 _ _ (ir hi) rfl)
 obtain ⟨A2, cap2, r2, _⟩ := gz (hr i 2 _ _ (ir hi) rfl)
 have h1 := hr i 1 _ _ (ir hi) rfl
 rw [r1] at h1
 have c0 := hc i 0 hl (by omega)
 have c1 := hc i 1 hl (by omega)
 have c2 := hc i 2 hl (by omega)
 rw [e0] at c0
 rw [r1] at c1
 rw [r2] at c2
 exact ⟨g, o, s, A1, _, cap1, A2, _, cap2, rfl, e1, c0, c1, c2, h1⟩
theorem ani (w : World) (c : Cls) (sb : ByteArray) (hG : GOK τ w c) : Calls Tryz.prog 64 #[.string sb] w fun e w' => ∃ x c', Ext w.heap.size w c w' c' ∧
  (fk sb.data.toList = true → e = .returned (.tuple #[x, .bool (ef (al sb.data.toList)).2, .bool true]) ∧ Rep w' c' x (.sl 1 (br (ef (al sb.data.toList)).1))) ∧ (fk sb.data.toList = false → ∃ y, e = .returned (.tuple #[x, y, .bool false])) := by
 refine (St.qf amd (show ag Z 64 _ = _ from awk sb.data.toList) (vs := #[.string sb]) (c := c) Tryz.func64 rfl (by decide +kernel) hG rfl (fun i v a hv ha => ?_)).mono fun e w' ⟨y, c', he, hx, hr⟩ => ?_
 ·rcases i with _ | i
  ·simp at hv ha; subst hv; subst ha; exact .inr (Rep.str sb)
  ·simp at hv
 ·cases hp : fk sb.data.toList with
  | true =>
   rw [hp] at hr
   obtain ⟨vs, rfl, hsz, h⟩ := hr
   obtain ⟨vs⟩ := vs
   match vs, hsz with
   | [x, y, z], _ =>
    have h0 := h 0 _ x rfl rfl
    have h1 := eo (show Rep w' c' y (.bool _) from h 1 _ y rfl rfl)
    have h2 := eo (show Rep w' c' z (.bool _) from h 2 _ z rfl rfl)
    subst h1; subst h2
    exact ⟨x, c', hx, fun _ => ⟨he, h0⟩, fun h => by cases h⟩
  | false =>
   rw [hp] at hr
   obtain ⟨vs, rfl, hsz, h⟩ := hr
   obtain ⟨vs⟩ := vs
   match vs, hsz with
   | [x, y, z], _ =>
    have h2 := eo (show Rep w' c' z (.bool _) from h 2 _ z rfl rfl)
    subst h2
    exact ⟨x, c', hx, fun h => (by cases h), fun _ => ⟨y, he⟩⟩
theorem anj (w : World) (c : Cls) (v : Value) (ts : List Th) (hl : ts.length ≤ 256) (hs : ∀ t ∈ ts, zf t) (hR : Rep w c v (.sl 3 (cf ts))) (hG : GOK τ w c) : Calls Tryz.prog 33 #[v] w fun e w' => ∃ c', Ext w.heap.size w c w' c' ∧ e = .returned (.bool (kf ts)) := by
 refine (St.qf amd (show ag Z 33 _ = _ from ata ts hl hs) (vs := #[v]) (c := c) Tryz.func33 rfl (by decide +kernel) hG rfl (fun i x a hx ha => ?_)).mono fun e w' ⟨y, c', he, hx, hr⟩ => ?_
 ·rcases i with _ | i
  ·simp at hx ha; subst hx; subst ha; exact .inr hR
  ·simp at hx
 ·obtain rfl := eo (show Rep w' c' y (.bool _) from hr)
  exact ⟨c', hx, he⟩
theorem awl (w : World) (c : Cls) (v : Value) (ts : List Th) (sb : ByteArray) (hR : Rep w c v (.sl 3 (cf ts))) (hG : GOK τ w c) (hl : ts.length ≤ 256) (hs : ∀ t ∈ ts, zf t) :
  Calls Tryz.prog 19 #[v, .string sb] w fun e w' => ∃ x c', e = .returned (.tuple #[x, .int .i64 (fdV ts sb.data.toList).2]) ∧ Ext w.heap.size w c w' c' ∧ Rep w' c' x (.sl 2 (kh (fdV ts sb.data.toList).1)) := by
 have C64 := Lib.hid (ani w c sb hG)
 have C33 := Lib.hid fun (w' : World) (c' : Cls) (hE : Ext w.heap.size w c w' c') => anj w' c' v ts hl hs (hR.ext hE) (hG.ext hE)
 have hgoal : fdV ts sb.data.toList = (if fk sb.data.toList = true then (if kf ts = true then (fds (ef (Qw.al sb.data.toList)).1 (ef (Qw.al sb.data.toList)).2 ts, 0) else ([], 1)) else ([], 2)) := rfl
 have hne := aoo (s := sb.data.toList)
 rw [hgoal]
 clear hgoal
 generalize fk sb.data.toList = po at C64 ⊢
 generalize (ef (Qw.al sb.data.toList)).2 = deep at C64 ⊢
 generalize (ef (Qw.al sb.data.toList)).1 = l at C64 hne ⊢
 have hth : kf ts = true → _ := aba (ts := ts)
 generalize kf ts = rb at C33 hth ⊢
 replace hR := Lib.hid hR
 obtain ⟨x0, r, rfl⟩ : ∃ x0 r, l = x0 :: r := by
  cases l with
  | nil => exact absurd rfl hne
  | cons a b => exact ⟨a, b, rfl⟩
 clear hne hG
 go_enter Tryz.func19, Tryz.ntmps19
 go_wp2_with fail
 refine C64.out.mono ?_
 rintro e w2 ⟨x, c2, hE2, h1, h2⟩
 clear C64
 cases po with
 | false =>
  obtain ⟨y, rfl⟩ := h2 rfl
  clear h1 h2
  go_wp2_with fail
  refine bodyPost_ret (results_tmp2 rfl _ _ _) rfl ?_
  exact ⟨_, rfl, c2, hE2, .nil _⟩
 | true =>
  obtain ⟨rfl, hx⟩ := h1 rfl
  clear h1 h2
  replace hx := Lib.hid hx
  go_wp2_with fail
  refine (C33.out w2 c2 hE2).mono ?_
  rintro e w3 ⟨c3, hE3, rfl⟩
  clear C33
  cases rb with
  | false =>
   go_wp2_with fail
   refine bodyPost_ret (results_tmp2 rfl _ _ _) rfl ?_
   exact ⟨_, rfl, c3, hE2.trans (hE3.mono hE2.size), .nil _⟩
  | true =>
   have hth2 := hth rfl
   obtain ⟨A, cap, rfl, hA⟩ := a3f ((hR.out.ext hE2).ext hE3)
   obtain ⟨g2, o2, s2, cap2, rfl, hcap2, hs2, hl0, hLr⟩ := af3 (hx.out.ext hE3)
   have hE := Lib.hid (hE2.trans (hE3.mono hE2.size))
   replace hA := Lib.hid hA
   replace hl0 := Lib.hid hl0
   replace hLr := Lib.hid hLr
   replace hth2 := Lib.hid hth2
   clear hE2 hE3 hR hx hth
   have hI0 := Lib.hid (show HI w3 c3 w3.heap.size [] (w3.alloc (.cells #[.slice none 0 0] 39)) from ⟨⟨_, heap_alloc_new w3 _, oq.nil _ _ _ _, by simp [Value.ownBlock]⟩, (Below.refl _ w3).alloc (Nat.le_refl _) _, Nat.le_refl _⟩)
   go_wp2_with fail
   go_loopg [27] ts.length (fun gk v27 W => ∃ i : Nat, i + gk = ts.length ∧ v27 = .int .i64 i ∧ Gr.Ax (HI w3 c3 w3.heap.size (fds (x0 :: r) deep (ts.take i)) W))
   case atStart => exact ⟨0, by omega, rfl, ⟨by rw [List.take_zero]; exact hI0.out⟩⟩
   case round =>
    clear hI0
    obtain ⟨i, hig, rfl, HM⟩ := hrel
    by_cases hil : i < ts.length
    ·obtain ⟨m1, rfl⟩ : ∃ j, gk = j + 1 := ⟨gk - 1, by omega⟩
     obtain ⟨t, ht⟩ : ∃ t, ts[i]? = some t := ⟨ts[i], List.getElem?_eq_getElem hil⟩
     obtain ⟨g3, o3, s3, b3, n3, c3', b4, n4, c4, rfl, hs3, u0, u1, u2, hV3⟩ := (hA.out i t ht).ex
     have u0 := bu HM.out.bel u0
     have u1 := bu HM.out.bel u1
     have u2 := bu HM.out.bel u2
     have l0 := bu HM.out.bel hl0.out
     obtain ⟨hz, hnm, hn16⟩ := hth2.out t (List.mem_of_getElem? ht)
     have hs3z : s3.size = t.n.length := by rw [Lib.size_eq, hs3]
     have hlen := aop (l := x0 :: r) (deep := deep) (ts := ts.take i) fun t ht => (hth2.out t (List.mem_of_mem_take ht)).1
     rw [List.length_take] at hlen
     go_wp2_with fail
     have l1 : (wr.alloc (.cells #[.string s3, .slice b3 n3 c3', .slice b4 n4 c4] 70)).cell? ⟨g2, o2, none⟩ = some (.string s2) := by
      rw [World.cell?_alloc_old _ _ _ (Nat.ne_of_lt (re l0))]; exact l0
     have l2 : (wr.alloc (.cells #[.string s3, .slice b3 n3 c3', .slice b4 n4 c4] 70)).cell? ⟨wr.heap.size, 0, none⟩ = some (.string s3) := by
      rw [cell_of (heap_alloc_new wr _)]; rfl
     have hinj : ∀ {u v : ByteArray}, u.toList = v.toList → u = v := fun {u v} h => by
      rw [Lib.toList_data, Lib.toList_data] at h
      cases u with | mk u => cases v with | mk v => exact congrArg ByteArray.mk (Array.ext' h)
     have ix1 : (1 : Int) ≤ (r.length : Int) + 1 := by omega
     obtain ⟨Ab, hAb⟩ : ∃ Ab : Option Addr, Ab = if cap2 = 1 then some ⟨g2, o2, none⟩ else some ⟨g2, o2 + 1, none⟩ := ⟨_, rfl⟩
     have hTl : Rep w3 c3 (.slice Ab r.length (cap2 - 1)) (.sl 1 (br r)) := by rw [hAb]; exact amg hcap2 hLr.out
     have hrec := Lib.hid fun (w5 : World) (hB5 : Below wr.heap.size wr w5) => awi w3 c3 w3.heap.size (szV t.v) (by omega) t.v r deep s3 _ w5.drew (.slice b3 n3 c3') _ (Nat.le_refl _) hnm (by omega) (by omega) hV3 hTl ((HM.out.below hB5).below ((Below.refl _ w5).drew))
     by_cases e1 : s2 = ⟨#[42]⟩
     ·have d1 : (s2.toList == (⟨#[42]⟩ : ByteArray).toList) = true := by rw [e1]; exact beq_self_eq_true _
      go_quiet (fail)
      go_wp2
      have hB5 : Below wr.heap.size wr ((wr.alloc (.cells #[.string s3, .slice b3 n3 c3', .slice b4 n4 c4] 70)).drewN nq) := ⟨rfl, rfl, rfl, ((Below.refl _ wr).alloc (Nat.le_refl _) (.cells #[.string s3, .slice b3 n3 c3', .slice b4 n4 c4] 70)).size, ((Below.refl _ wr).alloc (Nat.le_refl _) (.cells #[.string s3, .slice b3 n3 c3', .slice b4 n4 c4] 70)).block⟩
      have z0 : ((wr.alloc (.cells #[.string s3, .slice b3 n3 c3', .slice b4 n4 c4] 70)).drewN nq).cell? ⟨wr.heap.size, 0, none⟩ = some (.string s3) := by
       show (wr.alloc _).cell? _ = _
       rw [cell_of (heap_alloc_new wr _)]; rfl
      have z1 : ((wr.alloc (.cells #[.string s3, .slice b3 n3 c3', .slice b4 n4 c4] 70)).drewN nq).cell? ⟨wr.heap.size, 1, none⟩ = some (.slice b3 n3 c3') := by
       show (wr.alloc _).cell? _ = _
       rw [cell_of (heap_alloc_new wr _)]; rfl
      generalize ((wr.alloc (.cells #[.string s3, .slice b3 n3 c3', .slice b4 n4 c4] 70)).drewN nq) = w5 at hB5 z0 z1 ⊢
      go_still_tail 8, (by kernel_rfl)
      rw [← hAb]
      clear hAb
      change wpList _ _ _ _ _ w5.drew
      go_wp2_with fail
      refine (hrec.out w5 hB5).mono ?_
      rintro e w6 ⟨rfl, h6⟩
      have hnx := Lib.hid (show HI w3 c3 w3.heap.size (fds (x0 :: r) deep (ts.take (i + 1))) w6 from by
       rw [aem ht, show fd1 (x0 :: r) deep t = wkV t.n r deep t.v from if_pos (.inl (by rw [← hs2, e1])), ← hs3]; exact h6)
      clear h6
      go_wp2_with fail
      go_roundg m1
      case measure => omega
      case rel => exact ⟨i + 1, by omega, by go_num, ⟨hnx.out⟩⟩
     ·have d1 : (s2.toList == [42]) = false := beq_eq_false_iff_ne.2 fun h => e1 (hinj (h.trans (by rw [Lib.toList_data])))
      by_cases e2 : s2 = s3
      ·have d2 : (s2.toList == s3.toList) = true := by rw [e2]; exact beq_self_eq_true _
       have d3 : (s3.toList == [42]) = false := by rw [← e2]; exact d1
       go_quiet (fail)
       go_wp2
       have hB5 : Below wr.heap.size wr ((wr.alloc (.cells #[.string s3, .slice b3 n3 c3', .slice b4 n4 c4] 70)).drewN nq) := ⟨rfl, rfl, rfl, ((Below.refl _ wr).alloc (Nat.le_refl _) (.cells #[.string s3, .slice b3 n3 c3', .slice b4 n4 c4] 70)).size, ((Below.refl _ wr).alloc (Nat.le_refl _) (.cells #[.string s3, .slice b3 n3 c3', .slice b4 n4 c4] 70)).block⟩
       have z0 : ((wr.alloc (.cells #[.string s3, .slice b3 n3 c3', .slice b4 n4 c4] 70)).drewN nq).cell? ⟨wr.heap.size, 0, none⟩ = some (.string s3) := by
        show (wr.alloc _).cell? _ = _
        rw [cell_of (heap_alloc_new wr _)]; rfl
       have z1 : ((wr.alloc (.cells #[.string s3, .slice b3 n3 c3', .slice b4 n4 c4] 70)).drewN nq).cell? ⟨wr.heap.size, 1, none⟩ = some (.slice b3 n3 c3') := by
        show (wr.alloc _).cell? _ = _
        rw [cell_of (heap_alloc_new wr _)]; rfl
       generalize ((wr.alloc (.cells #[.string s3, .slice b3 n3 c3', .slice b4 n4 c4] 70)).drewN nq) = w5 at hB5 z0 z1 ⊢
       go_still_tail 8, (by kernel_rfl)
       rw [← hAb]
       clear hAb
       change wpList _ _ _ _ _ w5.drew
       go_wp2_with fail
       refine (hrec.out w5 hB5).mono ?_
       rintro e w6 ⟨rfl, h6⟩
       have hnx := Lib.hid (show HI w3 c3 w3.heap.size (fds (x0 :: r) deep (ts.take (i + 1))) w6 from by
        rw [aem ht, show fd1 (x0 :: r) deep t = wkV t.n r deep t.v from if_pos (.inr (by rw [← hs2, ← hs3, e2])), ← hs3]; exact h6)
       clear h6
       go_wp2_with fail
       go_roundg m1
       case measure => omega
       case rel => exact ⟨i + 1, by omega, by go_num, ⟨hnx.out⟩⟩
      ·have d2 : (s2.toList == s3.toList) = false := beq_eq_false_iff_ne.2 fun h => e2 (hinj h)
       go_quiet (fail)
       go_wp2
       have hno : ¬ (x0 = [42] ∨ x0 = t.n) := by
        rintro (h | h)
        ·exact e1 (hinj (by rw [Lib.toList_data, Lib.toList_data, hs2, h]))
        ·exact e2 (hinj (by rw [Lib.toList_data, Lib.toList_data, hs2, hs3, h]))
       have hnx := Lib.hid (show HI w3 c3 w3.heap.size (fds (x0 :: r) deep (ts.take (i + 1))) ((wr.alloc (.cells #[.string s3, .slice b3 n3 c3', .slice b4 n4 c4] 70)).drewN nq) from by
        rw [aem ht, show fd1 (x0 :: r) deep t = [] from if_neg hno, List.append_nil]
        exact HM.out.below ⟨rfl, rfl, rfl, ((Below.refl _ wr).alloc (Nat.le_refl _) (.cells #[.string s3, .slice b3 n3 c3', .slice b4 n4 c4] 70)).size, ((Below.refl _ wr).alloc (Nat.le_refl _) (.cells #[.string s3, .slice b3 n3 c3', .slice b4 n4 c4] 70)).block⟩)
       go_roundg m1
       case measure => omega
       case rel => exact ⟨i + 1, by omega, by go_num, ⟨hnx.out⟩⟩
    ·obtain rfl : gk = 0 := by omega
     obtain rfl : i = ts.length := by omega
     have hI := HM.out
     rw [List.take_of_length_le (Nat.le_refl _)] at hI
     clear HM
     obtain ⟨v9, hv9, hrow, hne9⟩ := hI.ex
     have hz9 : wr.cell? ⟨w3.heap.size, 0, none⟩ = some v9 := by rw [cell_of hv9]; rfl
     have hrep := Lib.hid hrow.rep
     have hbel := Lib.hid hI.bel
     clear hI hrow hv9
     go_wp2_with fail
     refine bodyPost_ret (results_tmp2 rfl _ _ _) rfl ?_
     exact ⟨_, rfl, _, hE.out.trans ((Abs.ig c3 hbel.out).mono hE.out.size), hrep.out⟩
end Go.Proofs.YtmdimhcjogjcgaaGreatDoor.Qw
namespace Go.Proofs.YtmdimhcjogjcgaaGreatDoor.Lat
open Go.Proofs.YtmdimhcjogjcgaaGreatDoor.Abs
mutual
theorem awm : ∀ t u : Tm, ah t = ah u → t = u
 | .mk k lo hi s a m o fs, .mk k' lo' hi' s' a' m' o' fs', h => by
  rw [ah, ah] at h
  simp only [List.cons.injEq, AV.int.injEq, AV.str.injEq, AV.bool.injEq, AV.sl.injEq, true_and, and_true] at h
  obtain ⟨rfl, rfl, rfl, rfl, rfl, rfl, rfl, h⟩ := h
  rw [amj fs fs' h]
theorem amj : ∀ a b : List Fd, cb a = cb b → a = b
 | [], [], _ => rfl
 | [], .mk _ _ :: _, h => by rw [cb, cb] at h; cases h
 | .mk _ _ :: _, [], h => by rw [cb, cb] at h; cases h
 | .mk n v :: r, .mk n' v' :: r', h => by
  rw [cb, cb] at h
  simp only [List.cons.injEq, AV.str.injEq, AV.sl.injEq, true_and, and_true] at h
  obtain ⟨⟨rfl, h1⟩, h2⟩ := h
  rw [aen v v' h1, amj r r' h2]
theorem aen : ∀ a b : List Tm, ak a = ak b → a = b
 | [], [], _ => rfl
 | [], _ :: _, h => by rw [ak, ak] at h; cases h
 | _ :: _, [], h => by rw [ak, ak] at h; cases h
 | t :: r, t' :: r', h => by
  rw [ak, ak] at h
  simp only [List.cons.injEq] at h
  rw [awm t t' h.1, aen r r' h.2]
end
theorem aix : ∀ {a b : List Th}, cf a = cf b → a = b
 | [], [], _ => rfl
 | [], _ :: _, h => by simp [cf] at h
 | _ :: _, [], h => by simp [cf] at h
 | ⟨n, v, d⟩ :: a, ⟨n', v', d'⟩ :: b, h => by
  simp only [cf, ui, List.map_cons, List.cons.injEq, AV.str.injEq, AV.sl.injEq, and_true, true_and] at h
  obtain ⟨⟨rfl, h1, h2⟩, h3⟩ := h
  rw [aen _ _ h1, aej h2, aix h3]
end Go.Proofs.YtmdimhcjogjcgaaGreatDoor.Lat
namespace Go.Proofs.YtmdimhcjogjcgaaGreatDoor.Abs
open Go.RowKit Go.Proofs.YtmdimhcjogjcgaaGreatDoor.Lat Go.Proofs.YtmdimhcjogjcgaaGreatDoor.Gr Go.Proofs.YtmdimhcjogjcgaaGreatDoor.Th Go.Proofs.YtmdimhcjogjcgaaGreatDoor.Qw
def told {α : Type} (ok : α → Prop) (enc : α → List AV) (res : α → AV) (l : List AV) : Option AV := open Classical in if h : ∃ a, ok a ∧ l = enc a then some (res (Classical.choose h)) else none
theorem azk {α : Type} {ok : α → Prop} {enc : α → List AV} {res : α → AV} {l : List AV} {r : AV} (h : told ok enc res l = some r) : ∃ a, ok a ∧ l = enc a ∧ r = res a := by
 unfold told at h
 split at h
 ·rename_i hx
  cases h
  exact ⟨_, (Classical.choose_spec hx).1, (Classical.choose_spec hx).2, rfl⟩
 ·cases h
theorem azl {α : Type} {ok : α → Prop} {enc : α → List AV} {res : α → AV} {a : α} (hi : ∀ b, enc a = enc b → a = b) (h : ok a) : told ok enc res (enc a) = some (res a) := by
 unfold told
 have hx : ∃ b, ok b ∧ enc a = enc b := ⟨a, h, rfl⟩
 rw [dif_pos hx, ← hi _ (Classical.choose_spec hx).2]
def awn (p : List Th × Bs) : Prop := p.1.length ≤ 256 ∧ ∀ t ∈ p.1, zf t
def aqh := told awn (fun p => [.sl 3 (cf p.1), .str p.2]) fun p => .tup [.sl 2 (kh (fdV p.1 p.2).1), .int .i64 (fdV p.1 p.2).2]
theorem a3g {p : List Th × Bs} (h : awn p) : PC Tryz.prog τ 19 [.sl 3 (cf p.1), .str p.2] (.tup [.sl 2 (kh (fdV p.1 p.2).1), .int .i64 (fdV p.1 p.2).2]) := by
 intro w c vs hG hsz ha
 obtain ⟨v, u, rfl, hv, hu⟩ := aa6 hsz ha
 have hR : Rep w c v (.sl 3 (cf p.1)) := by rcases hv with hv | hv <;> exact hv
 have hU : Rep w c u (.str p.2) := by rcases hu with hu | hu <;> exact hu
 obtain ⟨sb, rfl, e⟩ := gu hU
 rw [← e]
 refine .inl ⟨by simp [callFunc, Tryz.func19, (show ¬ Tryz.f19.name = "runtime.NumGoroutine" by decide +kernel), (show Tryz.f19.body = some _ from rfl)], ?_⟩
 refine (awl w c v p.1 sb hR hG h.1 h.2).mono fun e' w' ⟨x, c', he, hx, hr⟩ => ⟨_, he, c', hx, _, rfl, rfl, fun i a y hi hy => ?_⟩
 rcases i with _ | _ | i
 ·cases hi; cases hy; exact hr
 ·cases hi; cases hy; exact Rep.int _ _
 ·simp at hi
def Q : Abs.Sys := sq Z 19 aqh
theorem a8s {f : Nat} {l : List AV} {v : AV} (h : ag Z f l = some v) : ag Q f l = some v := afz Z 19 aqh rfl h
theorem upQ {f : Nat} {l : List AV} {v : AV} (h : ag S f l = some v) : ag Q f l = some v := a8s (upZ h)
theorem amk : aa4 Tryz.prog Q := ⟨vz.tab, vz.fol, fun f g h l r hr => by
 by_cases hf2 : f = 19
 ·subst hf2
  rw [Q, nh] at h
  cases h
  obtain ⟨p, hp, rfl, rfl⟩ := azk hr
  exact a3g hp
 rw [Q, ke _ _ _ hf2] at h
 exact amd.or f g h l r hr, fun f d h => vz.fn f d h⟩
theorem aml {ts : List Th} {s : Bs} (h : awn (ts, s)) : ag Q 19 [.sl 3 (cf ts), .str s] = some (.tup [.sl 2 (kh (fdV ts s).1), .int .i64 (fdV ts s).2]) := by
 rw [ph, aj9 Q 19 _ aqh (by rw [Q, nh])]
 refine azl (a := (ts, s)) (fun b e => ?_) h
 simp only [List.cons.injEq, AV.sl.injEq, AV.str.injEq, true_and, and_true] at e
 rw [aix e.1, e.2]
def an (a0 a1 a2 : AV) : Option AV := ag Q 5 [a0, a1, a2]
def nv : Option AV := ag Q 17 []
def um (a0 : AV) : Option AV := ag Q 62 [a0]
theorem amm {a0 : AV} {v : AV} (h : yn a0 = some v) : um a0 = some v := upQ h
def mh (a0 : AV) : Option AV := ag Q 63 [a0]
theorem y5 {a0 : AV} {v : AV} (h : o5 a0 = some v) : mh a0 = some v := upQ h
def jb (a0 a1 : AV) : Option AV := ag Q 19 [a0, a1]
def x7 (a0 a1 : AV) : Option AV := ag Q 21 [a0, a1]
theorem ajd {a0 a1 : AV} {v : AV} (h : pk a0 a1 = some v) : x7 a0 a1 = some v := upQ h
def x8 (a0 : AV) : Option AV := ag Q 20 [a0]
theorem aje {a0 : AV} {v : AV} (h : eu a0 = some v) : x8 a0 = some v := upQ h
def an.j0 (a0 a1 a7 a9 : AV) : Option AV := abo Q 5 d5 [1, 1, 1, 1, 1] (look [(0, a0), (1, a1), (7, a7), (9, a9)])
def an.l1 (a7 a10 a12 a14 a15 : AV) : Option AV := cj Q 5 d5 [1, 1, 1, 1, 1, 1, 1, 1, 1, 1, 0, 1, 0] (look [(7, a7), (10, a10), (12, a12), (14, a14), (15, a15)])
def an.l2 (a10 a12 a16 a17 : AV) : Option AV := cj Q 5 d5 [1, 1, 1, 1, 1, 1, 1, 1, 1, 1, 1, 1, 1, 0, 1, 0] (look [(10, a10), (12, a12), (16, a16), (17, a17)])
theorem an.aar (l1 : LL) (s2 : B8) (l3 l4 : LL) : an.j0 (.sl 3 l1) (.str s2) (.sl 1 l3) (.sl 1 l4) = ((jb (.sl 3 l1) (.str s2)).bind fun r5 => lg r5 fun a6 a7 => asL 2 a6 fun l8 => asI .i64 a7 fun n9 => (x8 (.sl 1 l4)).bind fun r10 => asS r10 fun s11 => (jb (.sl 3 l1) (.str s11)).bind fun r12 => lg r12 fun a13 a14 => asL 2 a13 fun l15 => asI .i64 a14 fun n16 => ifB (!decide (n9 = n16)) (some (.bool false)) (an.l1 (.sl 1 l3) (.sl 2 l8) (.sl 2 l15) (.bool true) (.int .i64 0))) := (qx ..).trans (by kernel_rfl)
theorem an.acf (l1 l2 l3 : LL) (b4 : Bool) (n5 : Int) : an.l1 (.sl 1 l1) (.sl 2 l2) (.sl 2 l3) (.bool b4) (.int .i64 n5) = (ifB (decide (n5 < (l1.length : Int))) ((ifB b4 (idx l1 n5 fun c7 => ab c7 0 fun a8 => asS a8 fun s9 => some (!decide (s9 = [42]))) (some false) : Option Bool).bind fun b6 => (ifB b6 (idx l1 n5 fun c11 => ab c11 0 fun a12 => asS a12 fun s13 => some (!decide (s13 = [42, 42]))) (some false) : Option Bool).bind fun b10 => an.l1 (.sl 1 l1) (.sl 2 l2) (.sl 2 l3) (.bool b10) (.int .i64 (w64 (n5 + 1)))) ((ifB b4 (some (decide ((1 : Int) < (l2.length : Int)))) (some false) : Option Bool).bind fun b14 => ifB b14 (some (.bool false)) (an.l2 (.sl 2 l2) (.sl 2 l3) (.int .i64 0) (.int .i64 0)))) := (aw ..).trans (by kernel_rfl)
theorem an.ac7 (l1 l2 : LL) (n3 n4 : Int) : an.l2 (.sl 2 l1) (.sl 2 l2) (.int .i64 n3) (.int .i64 n4) = ((ifB (decide (n4 < (l2.length : Int))) (some (decide (n3 < (l1.length : Int)))) (some false) : Option Bool).bind fun b5 => ifB b5 (idx l2 n4 fun c6 => ab c6 0 fun a7 => asS a7 fun s8 => idx l1 n3 fun c9 => ab c9 0 fun a10 => asS a10 fun s11 => (ifB (decide (s8 = s11)) (idx l2 n4 fun c13 => ab c13 1 fun a14 => idx l1 n3 fun c15 => ab c15 1 fun a16 => (x7 (.agg 1 [a14]) (.agg 1 [a16])).bind fun r17 => asB r17 fun b18 => some b18) (some false) : Option Bool).bind fun b12 => ifB b12 (an.l2 (.sl 2 l1) (.sl 2 l2) (.int .i64 (w64 (n3 + 1))) (.int .i64 (w64 (n4 + 1)))) (an.l2 (.sl 2 l1) (.sl 2 l2) (.int .i64 n3) (.int .i64 (w64 (n4 + 1))))) (nv.bind fun r19 => asB r19 fun b20 => (ifB b20 (some (decide (n3 = (l1.length : Int)))) (some false) : Option Bool).bind fun b21 => some (.bool b21))) := (aw ..).trans (by kernel_rfl)
theorem nv.ae  : nv = ((mh (.int .i64 1)).bind fun r1 => asC 1 r1 fun c2 => (mh (.int .i64 4)).bind fun r3 => asC 1 r3 fun c4 => (um (.sl 2 ([(ni [.str [110], .sl 8 []] 1 c4)]))).bind fun r5 => asC 1 r5 fun c6 => (um (.sl 2 ([(ni [.str [105, 100], .sl 8 []] 1 c2), (ni [.str [110, 101, 116], .sl 8 []] 1 c6)]))).bind fun r7 => asC 1 r7 fun c8 => (jb (.sl 3 ([(ni [.str [119, 101, 98], .sl 8 [], .sl 1 []] 1 c8)])) (.str [119, 101, 98, 46, 42])).bind fun r9 => lg r9 fun a10 a11 => asL 2 a10 fun l12 => asI .i64 a11 fun n13 => (jb (.sl 3 ([(ni [.str [119, 101, 98], .sl 8 [], .sl 1 []] 1 c8)])) (.str [119, 101, 98, 46, 42, 42])).bind fun r14 => lg r14 fun a15 a16 => asL 2 a15 fun l17 => asI .i64 a16 fun n18 => (ifB (decide (n13 = 0)) (some (decide ((l12.length : Int) = 2))) (some false) : Option Bool).bind fun b19 => (ifB b19 (idx l12 1 fun c21 => ab c21 0 fun a22 => asS a22 fun s23 => some (decide (s23 = [119, 101, 98, 46, 110, 101, 116]))) (some false) : Option Bool).bind fun b20 => (ifB b20 (some (decide (n18 = 0))) (some false) : Option Bool).bind fun b24 => (ifB b24 (some (decide ((l17.length : Int) = 4))) (some false) : Option Bool).bind fun b25 => (ifB b25 (idx l17 0 fun c27 => ab c27 0 fun a28 => asS a28 fun s29 => some (decide (s29 = [119, 101, 98]))) (some false) : Option Bool).bind fun b26 => (ifB b26 (idx l17 3 fun c31 => ab c31 0 fun a32 => asS a32 fun s33 => some (decide (s33 = [119, 101, 98, 46, 110, 101, 116, 46, 110]))) (some false) : Option Bool).bind fun b30 => some (.bool b30)) := (af Q 17 _ d17 rfl h17).trans (by kernel_rfl)
def ajf (a0 : AV) : Option AV := ag Q 16 [a0]
theorem ahn {a0 : AV} {v : AV} (h : fy a0 = some v) : ajf a0 = some v := upQ h
def ajg (a0 : AV) : Option AV := ag Q 18 [a0]
theorem aho {a0 : AV} {v : AV} (h : ep a0 = some v) : ajg a0 = some v := upQ h
def ank (a0 : AV) : Option AV := ag Q 12 [a0]
theorem amn {a0 : AV} {v : AV} (h : dh a0 = some v) : ank a0 = some v := upQ h
end Go.Proofs.YtmdimhcjogjcgaaGreatDoor.Abs
namespace Go.Proofs.YtmdimhcjogjcgaaGreatDoor.Lat
structure RH where
 p : List Bs
 v : List Tm
mutual
def x9 (p : List Bs) : Tm → List RH
 | .mk _ _ _ _ _ _ _ fs => lb p fs
def lb (p : List Bs) : List Fd → List RH
 | [] => []
 | .mk n v :: r => (⟨p ++ [n], v⟩ :: ld (p ++ [n]) v) ++ lb p r
def ld (p : List Bs) : List Tm → List RH
 | [] => []
 | t :: r => x9 p t ++ ld p r
end
def vn (p : List Bs) (v : List Tm) : List RH := ⟨p, v⟩ :: ld p v
mutual
theorem awo (p : List Bs) : ∀ t : Tm, (x9 p t).length ≤ szT t
 | .mk _ _ _ _ _ _ _ fs => by rw [x9, szT]; have := amo p fs; omega
theorem amo (p : List Bs) : ∀ fs : List Fd, (lb p fs).length ≤ szF fs
 | [] => by rw [lb]; exact Nat.zero_le _
 | .mk n v :: r => by
  have h1 := amo p r
  have h2 := aeo (p ++ [n]) v
  rw [lb, szF, List.length_append, List.length_cons]; omega
theorem aeo (p : List Bs) : ∀ v : List Tm, (ld p v).length ≤ szV v
 | [] => by rw [ld]; exact Nat.zero_le _
 | t :: r => by
  have h1 := awo p t
  have h2 := aeo p r
  rw [ld, szV, List.length_append]; omega
end
theorem awp (p : List Bs) (v : List Tm) : (vn p v).length ≤ szV v + 1 := by
 have := aeo p v
 rw [vn, List.length_cons]; omega
end Go.Proofs.YtmdimhcjogjcgaaGreatDoor.Lat
