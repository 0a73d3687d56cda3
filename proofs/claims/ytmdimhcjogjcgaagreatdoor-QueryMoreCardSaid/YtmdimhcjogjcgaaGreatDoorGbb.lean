/- What a query's walk finds, plainly; terms and fields in frozen rows. -/
import Derived.Test.YtmdimhcjogjcgaaGreatDoorGba
import Derived.Deep.QuietTactic
import Derived.BigQuiet
import Derived.StillTailTactics
import Derived.Test.YtmdimhcjogjcgaaGreatDoorGam
set_option linter.all false
set_option maxRecDepth 100000
set_option maxHeartbeats 8000000
noncomputable section
namespace Go.Proofs.YtmdimhcjogjcgaaGreatDoor.Lat
def aqc (p : Bs) (l : List Bs) (deep : Bool) (n : Bs) (v : List Tm) (a b : List Hit) : List Hit := match l with
 | [] => ⟨p ++ 46 :: n, v⟩ :: a
 | x :: l' => if x = [42] ∨ x = n then (if l' = [] then ⟨p ++ 46 :: n, v⟩ :: (if deep = true then a else []) else b) else []
mutual
def wkT (p : Bs) (l : List Bs) (deep : Bool) : Tm → List Hit
 | .mk _ _ _ _ _ _ _ fs => wkF p l deep fs
def wkF (p : Bs) (l : List Bs) (deep : Bool) : List Fd → List Hit
 | [] => []
 | .mk n v :: r => aqc p l deep n v (wkL (p ++ 46 :: n) [] true v) (wkL (p ++ 46 :: n) l.tail deep v) ++ wkF p l deep r
def wkL (p : Bs) (l : List Bs) (deep : Bool) : List Tm → List Hit
 | [] => []
 | t :: r => wkT p l deep t ++ wkL p l deep r
end
def wkV (p : Bs) (l : List Bs) (deep : Bool) (v : List Tm) : List Hit := if l = [] then ⟨p, v⟩ :: (if deep = true then wkL p [] true v else []) else wkL p l deep v
theorem a3d (p : Bs) (l : List Bs) (deep : Bool) (t : Tm) : wkT p l deep t = wkF p l deep t.fs := by cases t; rw [wkT]; rfl
theorem x6 (p : Bs) (l : List Bs) (deep : Bool) (f : Fd) (r : List Fd) : wkF p l deep (f :: r) = (match l with
  | [] => wkV (p ++ 46 :: f.n) [] true f.v
  | x :: l' => if x = [42] ∨ x = f.n then wkV (p ++ 46 :: f.n) l' deep f.v else []) ++ wkF p l deep r := by
 cases f with
 | mk n v =>
  rw [wkF]
  cases l with
  | nil => rfl
  | cons x l' => rfl
theorem ael (p : Bs) (l : List Bs) (deep : Bool) (t : Tm) (r : List Tm) : wkL p l deep (t :: r) = wkF p l deep t.fs ++ wkL p l deep r := by rw [wkL, a3d]
theorem azc (p : Bs) (l : List Bs) (deep : Bool) (a : List Tm) : ∀ b : List Tm, wkL p l deep (a ++ b) = wkL p l deep a ++ wkL p l deep b := by
 induction a with
 | nil => intro b; rw [wkL]; rfl
 | cons t r ih => intro b; rw [List.cons_append, ael, ael, ih, List.append_assoc]
theorem azd (p : Bs) (l : List Bs) (deep : Bool) (a : List Fd) : ∀ b : List Fd, wkF p l deep (a ++ b) = wkF p l deep a ++ wkF p l deep b := by
 induction a with
 | nil => intro b; rw [wkF]; rfl
 | cons t r ih => intro b; rw [List.cons_append, x6, x6, ih, List.append_assoc]
mutual
theorem aze (p : Bs) (l : List Bs) (deep : Bool) : ∀ t : Tm, (wkT p l deep t).length ≤ szT t
 | .mk _ _ _ _ _ _ _ fs => by rw [wkT, szT]; have := ade p l deep fs; omega
theorem ade (p : Bs) (l : List Bs) (deep : Bool) : ∀ fs : List Fd, (wkF p l deep fs).length ≤ szF fs
 | [] => by rw [wkF]; exact Nat.zero_le _
 | .mk n v :: r => by
  have h1 := ade p l deep r
  have h2 := fun (q : Bs) (m : List Bs) (d : Bool) => w9 q m d v
  have h3 := h2 (p ++ 46 :: n) [] true
  rw [wkF, szF, List.length_append]
  unfold aqc
  cases l with
  | nil => simp only [List.length_cons]; omega
  | cons x l' =>
   have h4 := h2 (p ++ 46 :: n) l' deep
   dsimp only [List.tail_cons]
   split
   ·split
    ·split
     ·simp only [List.length_cons]; omega
     ·simp; omega
    ·omega
   ·simp; omega
theorem w9 (p : Bs) (l : List Bs) (deep : Bool) : ∀ v : List Tm, (wkL p l deep v).length ≤ szV v
 | [] => by rw [wkL]; exact Nat.zero_le _
 | t :: r => by
  have h1 := aze p l deep t
  have h2 := w9 p l deep r
  rw [wkL, szV, List.length_append]; omega
end
theorem azf (p : Bs) (l : List Bs) (deep : Bool) (v : List Tm) : (wkV p l deep v).length ≤ szV v + 1 := by
 have h1 := w9 p [] true v
 have h2 := w9 p l deep v
 unfold wkV
 split
 ·split
  ·simp only [List.length_cons]; omega
  ·simp
 ·omega
mutual
def nmT : Tm → Bool
 | .mk _ _ _ _ _ _ _ fs => nmF fs
def nmF : List Fd → Bool
 | [] => true
 | .mk n v :: r => decide (n.length ≤ 16) && nmL v && nmF r
def nmL : List Tm → Bool
 | [] => true
 | t :: r => nmT t && nmL r
end
theorem ahl : ∀ {v : List Tm} {t : Tm}, nmL v = true → t ∈ v → nmF t.fs = true
 | t :: r, u, h, hm => by
  rw [nmL, Bool.and_eq_true] at h
  rcases List.mem_cons.1 hm with rfl | hm
  ·cases u; have := h.1; rw [nmT] at this; exact this
  ·exact ahl h.2 hm
theorem ahm : ∀ {fs : List Fd} {f : Fd}, nmF fs = true → f ∈ fs → f.n.length ≤ 16 ∧ nmL f.v = true
 | .mk n v :: r, f, h, hm => by
  rw [nmF, Bool.and_eq_true, Bool.and_eq_true] at h
  rcases List.mem_cons.1 hm with rfl | hm
  ·exact ⟨of_decide_eq_true h.1.1, h.1.2⟩
  ·exact ahm h.2 hm
end Go.Proofs.YtmdimhcjogjcgaaGreatDoor.Lat
namespace Go.Proofs.YtmdimhcjogjcgaaGreatDoor.Qw
open Go.RowKit Go.Lib Go.Proofs.YtmdimhcjogjcgaaGreatDoor.Abs Go.Proofs.YtmdimhcjogjcgaaGreatDoor.Lat Go.Proofs.YtmdimhcjogjcgaaGreatDoor.Lat.Cp Go.Proofs.YtmdimhcjogjcgaaGreatDoor.Gr Go.Proofs.YtmdimhcjogjcgaaGreatDoor.Th
structure AtT (w : World) (c : Cls) (A : Option Addr) (i : Nat) (t : Tm) : Prop where
 ex : ∃ g o s b1 n1 c1, A = some ⟨g, o, none⟩ ∧ w.cell? ⟨g, o + i * 8, none⟩ = some (.int .i64 t.k) ∧ w.cell? ⟨g, o + i * 8 + 1, none⟩ = some (.int .i64 t.lo) ∧ w.cell? ⟨g, o + i * 8 + 2, none⟩ = some (.int .i64 t.hi) ∧
  w.cell? ⟨g, o + i * 8 + 3, none⟩ = some (.string s) ∧ w.cell? ⟨g, o + i * 8 + 4, none⟩ = some (.bool t.a) ∧ w.cell? ⟨g, o + i * 8 + 5, none⟩ = some (.bool t.m) ∧ w.cell? ⟨g, o + i * 8 + 6, none⟩ = some (.bool t.o) ∧
  w.cell? ⟨g, o + i * 8 + 7, none⟩ = some (.slice b1 n1 c1) ∧ Rep w c (.slice b1 n1 c1) (.sl 2 (cb t.fs))
theorem ame {w : World} {c : Cls} {v : Value} {l : List Tm} (h : Rep w c v (.sl 8 (ak l))) : ∃ A cap, v = .slice A l.length cap ∧ ∀ i t, l[i]? = some t → AtT w c A i t := by
 obtain ⟨A, cap, rfl, _, _, hm⟩ := gz h
 have hL : (ak l).length = l.length := by rw [je, List.length_map]
 rw [hL] at hm ⊢
 refine ⟨A, cap, rfl, fun i t hi => ?_⟩
 have hl := (List.getElem?_eq_some_iff.1 hi).1
 obtain ⟨g, o, rfl, _, f, hc, _, hr⟩ := hm (by omega)
 have et : (ak l)[i]? = some (ah t) := jc hi
 obtain ⟨k, lo, hh, s, a, m, q, fs⟩ := t
 have e0 := fb (hr i 0 _ _ et rfl)
 have e1 := fb (hr i 1 _ _ et rfl)
 have e2 := fb (hr i 2 _ _ et rfl)
 obtain ⟨sb, e3, _⟩ := gu (hr i 3 _ _ et rfl)
 have e4 := eo (hr i 4 _ _ et rfl)
 have e5 := eo (hr i 5 _ _ et rfl)
 have e6 := eo (hr i 6 _ _ et rfl)
 obtain ⟨A7, cap7, r7, _⟩ := gz (hr i 7 _ _ et rfl)
 have h7 := hr i 7 _ _ et rfl
 rw [r7] at h7
 have c0 := hc i 0 hl (by omega)
 have c1 := hc i 1 hl (by omega)
 have c2 := hc i 2 hl (by omega)
 have c3 := hc i 3 hl (by omega)
 have c4 := hc i 4 hl (by omega)
 have c5 := hc i 5 hl (by omega)
 have c6 := hc i 6 hl (by omega)
 have c7 := hc i 7 hl (by omega)
 rw [e0] at c0
 rw [e1] at c1
 rw [e2] at c2
 rw [e3] at c3
 rw [e4] at c4
 rw [e5] at c5
 rw [e6] at c6
 rw [r7] at c7
 exact ⟨g, o, sb, A7, _, cap7, rfl, c0, c1, c2, c3, c4, c5, c6, c7, h7⟩
structure AtF (w : World) (c : Cls) (A : Option Addr) (i : Nat) (f : Lat.Fd) : Prop where
 ex : ∃ g o s b1 n1 c1, A = some ⟨g, o, none⟩ ∧ s.data.toList = f.n ∧ w.cell? ⟨g, o + i * 2, none⟩ = some (.string s) ∧ w.cell? ⟨g, o + i * 2 + 1, none⟩ = some (.slice b1 n1 c1) ∧ Rep w c (.slice b1 n1 c1) (.sl 8 (ak f.v))
theorem aiw {w : World} {c : Cls} {v : Value} {l : List Lat.Fd} (h : Rep w c v (.sl 2 (cb l))) : ∃ A cap, v = .slice A l.length cap ∧ ∀ i t, l[i]? = some t → AtF w c A i t := by
 obtain ⟨A, cap, rfl, _, _, hm⟩ := gz h
 have hL : (cb l).length = l.length := by rw [jq, List.length_map]
 rw [hL] at hm ⊢
 refine ⟨A, cap, rfl, fun i t hi => ?_⟩
 have hl := (List.getElem?_eq_some_iff.1 hi).1
 obtain ⟨g, o, rfl, _, f, hc, _, hr⟩ := hm (by omega)
 have et : (cb l)[i]? = some (jg t) := fo hi
 obtain ⟨n, v⟩ := t
 obtain ⟨sb, e0, e1⟩ := gu (hr i 0 _ _ et rfl)
 obtain ⟨A7, cap7, r7, _⟩ := gz (hr i 1 _ _ et rfl)
 have h7 := hr i 1 _ _ et rfl
 rw [r7] at h7
 have c0 := hc i 0 hl (by omega)
 have c1 := hc i 1 hl (by omega)
 rw [e0] at c0
 rw [r7] at c1
 exact ⟨g, o, sb, A7, _, cap7, rfl, e1, c0, c1, h7⟩
theorem af3 {w : World} {c : Cls} {v : Value} {x : Bs} {r : List Bs} (h : Rep w c v (.sl 1 (br (x :: r)))) : ∃ g o s cap, v = .slice (some ⟨g, o, none⟩) (r.length + 1) cap ∧ r.length + 1 ≤ cap ∧ s.data.toList = x ∧ w.cell? ⟨g, o, none⟩ = some (.string s) ∧ Rep w c (.slice (some ⟨g, o + 1, none⟩) r.length (cap - 1)) (.sl 1 (br r)) := by
 obtain ⟨A, cap, rfl, hcap, _, hm⟩ := gz h
 rw [df, List.length_cons] at hcap hm ⊢
 obtain ⟨g, o, rfl, _, f, hc, hst, hr⟩ := hm (by omega)
 have ex : (br (x :: r))[0]? = some [AV.str x] := j4 rfl
 obtain ⟨s, e0, e1⟩ := gu (hr 0 0 _ _ ex rfl)
 have c0 := hc 0 0 (by omega) (by omega)
 rw [e0] at c0
 refine ⟨g, o, s, cap, rfl, hcap, e1, by simpa using c0, ?_⟩
 have hlen := df r
 rw [← hlen]
 refine Rep.sl g (o + 1) (cap - 1) 1 _ (fun i j => f (i + 1) j) (by rw [hlen]; omega) (fun i cs hi => ?_) (fun i j hi hj => ?_) (fun i j hi hj => ?_) (fun i j cs a hi hj => ?_)
 ·rw [br, List.getElem?_map] at hi
  cases hx : r[i]? with
  | none => rw [hx] at hi; cases hi
  | some q => rw [hx] at hi; cases hi; rfl
 ·have := hc (i + 1) j (by omega) hj
  rw [show o + 1 + (i * 1 + j) = o + ((i + 1) * 1 + j) by omega]; exact this
 ·have := hst (i + 1) j (by omega) hj
  rw [show o + 1 + (i * 1 + j) = o + ((i + 1) * 1 + j) by omega]; exact this
 ·refine hr (i + 1) j cs a ?_ hj
  rw [br, List.getElem?_map] at hi ⊢
  exact hi
theorem a8p {w w' : World} {B t k n : Nat} {v : Value} {xs : List Value} (h : w.ownsRow B t k v n xs) (hB : Below w.heap.size w w') : w'.ownsRow B t k v n xs := by
 obtain ⟨h1, h2 | ⟨g, cap, cur, rfl, h3, h4, h5⟩⟩ := h
 ·exact ⟨h1, .inl h2⟩
 ·exact ⟨h1, .inr ⟨g, cap, cur, rfl, h3, (hB.block g (dz h4)).trans h4, h5⟩⟩
theorem oq.below {w w' : World} {B b : Nat} {c : Cls} {v : Value} {l : List Hit} (h : oq w B b c v l) (hB : Below w.heap.size w w') : oq w' B b c v l := by
 obtain ⟨xs, h1, h2⟩ := h.ex
 refine ⟨xs, a8p h1 hB, fun i t j a hi hj => ?_⟩
 obtain ⟨x, e, hr⟩ := h2 i t j a hi hj
 exact ⟨x, e, yy hr hB.size hB.os hB.tape hB.output (fun q hq _ _ => hB.block q hq) (.inl rfl)⟩
theorem HI.below {w1 W W' : World} {c : Cls} {b : Nat} {l : List Hit} (h : HI w1 c b l W) (hB : Below W.heap.size W W') : HI w1 c b l W' := by
 obtain ⟨v, h1, h2, h3⟩ := h.ex
 exact ⟨⟨v, (hB.block b (dz h1)).trans h1, h2.below hB, h3⟩, dp h.bel (Nat.le_refl _) hB, h.ge⟩
theorem aqd {w1 W W' : World} {c : Cls} {b : Nat} {l : List Hit} (h : HI w1 c b l W) (hB : Below W.heap.size W W') (hl : l.length ≤ 1073741824) (s : ByteArray) {A : Option Addr} {n cap : Nat} {ts : List Tm} {fp : List Nat} (hO : OV W' W.heap.size (.slice A n cap) ts fp) :
  Calls Tryz.prog 66 #[.agg #[.string s, .slice A n cap], .pointer (some ⟨b, 0, none⟩)] W' fun e W2 => e = .returned (.tuple #[]) ∧ HI w1 c b (l ++ [⟨s.data.toList, ts⟩]) W2 ∧ ∀ q, W.heap.size ≤ q → q < W'.heap.size → W2.heap[q]? = W'.heap[q]? := by
 obtain ⟨v, h1, h2, h3⟩ := (h.below hB).ex
 obtain ⟨v0, g1, g2, g3⟩ := h.ex
 have hv : v0 = v := by
  have := (hB.block b (dz g1)).trans g1
  rw [h1] at this
  simpa using this.symm
 subst hv
 have hblk := amc g2
 have hlt := dz g1
 have hbel := (h.below hB).bel
 refine (as6 w1 c b l W' hl v0 h1 h2 h3 hbel h.ge s A n cap ts (hO.rep fun q hq => ?_)).mono fun e W2 ⟨he, hi, hk⟩ => ⟨he, hi, fun q hq1 hq2 => hk q hq2 (by omega) fun e => ?_⟩
 case refine_2 => have := (hblk q e).2; omega
 unfold Hx
 have hw := h.bel.size
 rw [if_neg, if_neg (by omega)]
 rintro (e | e)
 ·have := (hblk q e).2; omega
 ·omega
def amf (w1 : World) (c : Cls) (b n : Nat) : Prop := ∀ (v : List Tm) (l : List Bs) (deep : Bool) (p : ByteArray) (H : List Hit) (W : World) (vv lv : Value), szV v ≤ n → nmL v = true → p.size + 17 * szV v ≤ 1099511627776 → H.length + szV v + 1 ≤ 1073741824 →
 Rep w1 c vv (.sl 8 (ak v)) → Rep w1 c lv (.sl 1 (br l)) → HI w1 c b H W → Calls Tryz.prog 65 #[.string p, .agg #[vv], lv, .bool deep, .func (.func 66) #[] #[.pointer (some ⟨b, 0, none⟩)]] W fun e W' => e = .returned (.tuple #[]) ∧ HI w1 c b (H ++ wkV p.data.toList l deep v) W'
theorem as7 (p : Bs) (l : List Bs) (deep : Bool) {v : List Tm} {i : Nat} {t : Tm} (h : v[i]? = some t) : wkL p l deep (v.take (i + 1)) = wkL p l deep (v.take i) ++ wkF p l deep t.fs := by
 rw [List.take_add_one, h]
 show wkL p l deep (v.take i ++ [t]) = _
 rw [azc, ael, wkL, List.append_nil]
theorem af4 (p : Bs) (l : List Bs) (deep : Bool) {fs : List Lat.Fd} {i : Nat} {f : Lat.Fd} (h : fs[i]? = some f) : wkF p l deep (fs.take (i + 1)) = wkF p l deep (fs.take i) ++ wkF p l deep [f] := by
 rw [List.take_add_one, h]
 exact azd ..
theorem anh (p : Bs) (deep : Bool) (f : Lat.Fd) : wkF p [] deep [f] = wkV (p ++ 46 :: f.n) [] true f.v := by rw [x6, wkF, List.append_nil]
theorem adx (p : Bs) (x : Bs) (l : List Bs) (deep : Bool) (f : Lat.Fd) (h : x = [42] ∨ x = f.n) : wkF p (x :: l) deep [f] = wkV (p ++ 46 :: f.n) l deep f.v := by rw [x6, wkF, List.append_nil]; exact if_pos h
theorem aqe (p : Bs) (x : Bs) (l : List Bs) (deep : Bool) (f : Lat.Fd) (h : ¬ (x = [42] ∨ x = f.n)) : wkF p (x :: l) deep [f] = [] := by rw [x6, wkF, List.append_nil]; exact if_neg h
theorem axd (p s : ByteArray) : (p ++ ⟨#[46]⟩ ++ s).size = p.size + 1 + s.size := by
 rw [ByteArray.size_append, ByteArray.size_append]; rfl
theorem aqf (p s : ByteArray) : (p ++ ⟨#[46]⟩ ++ s).data.toList = p.data.toList ++ 46 :: s.data.toList := by
 simp [ByteArray.data_append]
theorem amg {w : World} {c : Cls} {g o cap : Nat} {r : List Bs} (hc : r.length + 1 ≤ cap) (h : Rep w c (.slice (some ⟨g, o + 1, none⟩) r.length (cap - 1)) (.sl 1 (br r))) : Rep w c (.slice (if cap = 1 then some ⟨g, o, none⟩ else some ⟨g, o + 1, none⟩) r.length (cap - 1)) (.sl 1 (br r)) := by
 by_cases h1 : cap = 1
 ·rw [if_pos h1]
  have h0 : r.length = 0 := by omega
  obtain rfl := List.eq_nil_of_length_eq_zero h0
  exact .emp _ _ _
 ·rw [if_neg h1]; exact h
theorem ach : ∀ {fs : List Lat.Fd} {k : Nat} {f : Lat.Fd}, fs[k]? = some f → szF (fs.take k) + (1 + szV f.v) ≤ szF fs
 | .mk n v :: r, 0, f, h => by
  cases h
  show szF [] + (1 + szV v) ≤ _
  rw [szF, szF]; omega
 | .mk n v :: r, k + 1, f, h => by
  have := ach (fs := r) (k := k) (f := f) (by simpa using h)
  rw [List.take_succ_cons, szF, szF]; omega
theorem aci : ∀ {v : List Tm} {i : Nat} {t : Tm}, v[i]? = some t → szV (v.take i) + (1 + szF t.fs) ≤ szV v
 | t :: r, 0, u, h => by
  cases h
  show szV [] + _ ≤ _
  rw [szV, szV, fq]; omega
 | t :: r, i + 1, u, h => by
  have := aci (v := r) (i := i) (t := u) (by simpa using h)
  rw [List.take_succ_cons, szV, szV]; omega
theorem as8 (w1 : World) (c : Cls) (b n : Nat) (hn : n ≤ 1073741824) (ih : ∀ m, m < n → amf w1 c b m) (v : List Tm) (x : Bs) (r : List Bs) (deep : Bool) (p : ByteArray) (H : List Hit) (W : World) (vv lv : Value) (hs : szV v ≤ n) (hnm : nmL v = true) (hp : p.size + 17 * szV v ≤ 1099511627776) (hH : H.length + szV v + 1 ≤ 1073741824)
  (hV : Rep w1 c vv (.sl 8 (ak v))) (hL : Rep w1 c lv (.sl 1 (br (x :: r)))) (hI : HI w1 c b H W) : Calls Tryz.prog 65 #[.string p, .agg #[vv], lv, .bool deep, .func (.func 66) #[] #[.pointer (some ⟨b, 0, none⟩)]] W fun e W' => e = .returned (.tuple #[]) ∧ HI w1 c b (H ++ wkV p.data.toList (x :: r) deep v) W' := by
 obtain ⟨A, cap, rfl, hA⟩ := ame hV
 obtain ⟨g2, o2, s2, cap2, rfl, hcap2, hs2, hl0, hLr⟩ := af3 hL
 have hvl := fx v
 have hgoal : wkV p.data.toList (x :: r) deep v = wkL p.data.toList (x :: r) deep v := by unfold wkV; rw [if_neg (by simp)]
 rw [hgoal]
 replace hA := Lib.hid hA
 replace hl0 := Lib.hid hl0
 replace hLr := Lib.hid hLr
 replace ih := Lib.hid ih
 clear hV hL hgoal
 have hI' := Lib.hid (hI.below ((Below.refl _ W).alloc (Nat.le_refl _) (.cells #[.slice A v.length cap] 45)))
 have hk := hI.bel
 clear hI
 go_enter Tryz.func65, Tryz.ntmps65
 go_wp2_with fail
 go_loopg [29] v.length (fun gk v29 W => ∃ i : Nat, i + gk = v.length ∧ v29 = .int .i64 i ∧ Gr.Ax (HI w1 c b (H ++ wkL p.data.toList (x :: r) deep (v.take i)) W))
 case atStart => exact ⟨0, by omega, rfl, ⟨by rw [List.take_zero, wkL, List.append_nil]; exact hI'.out⟩⟩
 case round =>
  clear hI'
  obtain ⟨i, hig, rfl, HM⟩ := hrel
  by_cases hil : i < v.length
  ·obtain ⟨m1, rfl⟩ : ∃ j, gk = j + 1 := ⟨gk - 1, by omega⟩
   obtain ⟨t, ht⟩ : ∃ t, v[i]? = some t := ⟨v[i], List.getElem?_eq_getElem hil⟩
   obtain ⟨g, o, s, b1, n1, c1, rfl, q0, q1, q2, q3, q4, q5, q6, q7, hF⟩ := (hA.out i t ht).ex
   obtain ⟨Af, capf, e7, hAF⟩ := aiw hF
   cases e7
   have q0 := bu HM.out.bel q0
   have q1 := bu HM.out.bel q1
   have q2 := bu HM.out.bel q2
   have q3 := bu HM.out.bel q3
   have q4 := bu HM.out.bel q4
   have q5 := bu HM.out.bel q5
   have q6 := bu HM.out.bel q6
   have q7 := bu HM.out.bel q7
   have hzt := oe (List.mem_of_getElem? ht)
   rw [fq] at hzt
   have hfl := ie t.fs
   have hnt := ahl hnm (List.mem_of_getElem? ht)
   replace hAF := Lib.hid hAF
   clear hF
   go_wp2_with fail
   have hI2 := Lib.hid (HM.out.below ((Below.refl _ wr).alloc (Nat.le_refl _) (.cells #[.int .i64 t.k, .int .i64 t.lo, .int .i64 t.hi, .string s, .bool t.a, .bool t.m, .bool t.o, .slice b1 t.fs.length c1] 68)))
   have hlen2 := w9 p.data.toList (x :: r) deep (v.take i)
   go_loopg [36] t.fs.length (fun gk v36 W => ∃ k : Nat, k + gk = t.fs.length ∧ v36 = .int .i64 k ∧ Gr.Ax (HI w1 c b ((H ++ wkL p.data.toList (x :: r) deep (v.take i)) ++ wkF p.data.toList (x :: r) deep (t.fs.take k)) W))
   case atStart => exact ⟨0, by omega, rfl, ⟨by rw [List.take_zero, wkF, List.append_nil]; exact hI2.out⟩⟩
   case round =>
    clear hI2 q0 q1 q2 q3 q4 q5 q6 q7
    obtain ⟨k, hkg, rfl, HF⟩ := hrel
    by_cases hkl : k < t.fs.length
    ·obtain ⟨m2, rfl⟩ : ∃ j, gk = j + 1 := ⟨gk - 1, by omega⟩
     obtain ⟨f, hf⟩ : ∃ f, t.fs[k]? = some f := ⟨t.fs[k], List.getElem?_eq_getElem hkl⟩
     obtain ⟨g3, o3, s3, b3, n3, c3, rfl, hs3, u0, u1, hV3⟩ := (hAF.out k f hf).ex
     have u0 := bu HF.out.bel u0
     have u1 := bu HF.out.bel u1
     have l0 := bu HF.out.bel hl0.out
     have hzf := mv hf
     have hnf := ahm hnt (List.mem_of_getElem? hf)
     have hs3z : s3.size = f.n.length := by rw [Lib.size_eq, hs3]
     go_wp2_with fail
     have l1 : (wr.alloc (.cells #[.string s3, .slice b3 n3 c3] 110)).cell? ⟨g2, o2, none⟩ = some (.string s2) := by
      rw [World.cell?_alloc_old _ _ _ (Nat.ne_of_lt (re l0))]; exact l0
     have l2 : (wr.alloc (.cells #[.string s3, .slice b3 n3 c3] 110)).cell? ⟨wr.heap.size, 0, none⟩ = some (.string s3) := by
      rw [cell_of (heap_alloc_new wr _)]; rfl
     have hinj : ∀ {u v : ByteArray}, u.toList = v.toList → u = v := fun {u v} h => by
      rw [Lib.toList_data, Lib.toList_data] at h
      cases u with | mk u => cases v with | mk v => exact congrArg ByteArray.mk (Array.ext' h)
     have ix1 : (1 : Int) ≤ (r.length : Int) + 1 := by omega
     have hnf1 := hnf.1
     have hlen3 := ade p.data.toList (x :: r) deep (t.fs.take k)
     have hsub := ach hf
     have hsubL := aci ht
     obtain ⟨Ab, hAb⟩ : ∃ Ab : Option Addr, Ab = if cap2 = 1 then some ⟨g2, o2, none⟩ else some ⟨g2, o2 + 1, none⟩ := ⟨_, rfl⟩
     have hTl : Rep w1 c (.slice Ab r.length (cap2 - 1)) (.sl 1 (br r)) := by rw [hAb]; exact amg hcap2 hLr.out
     have hrec := Lib.hid fun (w5 : World) (hB5 : Below wr.heap.size wr w5) => ih.out (szV f.v) (by omega) f.v r deep (p ++ ⟨#[46]⟩ ++ s3) _ w5.drew (.slice b3 n3 c3) _ (Nat.le_refl _) hnf.2 (by rw [axd]; omega) (by
      rw [List.length_append, List.length_append]
      omega) hV3 hTl ((HF.out.below hB5).below ((Below.refl _ w5).drew))
     by_cases e1 : s2 = ⟨#[42]⟩
     ·have d1 : (s2.toList == (⟨#[42]⟩ : ByteArray).toList) = true := by rw [e1]; exact beq_self_eq_true _
      go_quiet (fail)
      go_wp2
      have hB5 : Below wr.heap.size wr ((wr.alloc (.cells #[.string s3, .slice b3 n3 c3] 110)).drewN nq) := ⟨rfl, rfl, rfl, ((Below.refl _ wr).alloc (Nat.le_refl _) (.cells #[.string s3, .slice b3 n3 c3] 110)).size, ((Below.refl _ wr).alloc (Nat.le_refl _) (.cells #[.string s3, .slice b3 n3 c3] 110)).block⟩
      have z1 : ((wr.alloc (.cells #[.string s3, .slice b3 n3 c3] 110)).drewN nq).cell? ⟨wr.heap.size, 1, none⟩ = some (.slice b3 n3 c3) := by
       show (wr.alloc _).cell? _ = _
       rw [cell_of (heap_alloc_new wr _)]; rfl
      generalize ((wr.alloc (.cells #[.string s3, .slice b3 n3 c3] 110)).drewN nq) = w5 at hB5 z1 ⊢
      go_still_tail 7, (by kernel_rfl)
      rw [← hAb]
      clear hAb
      change wpList _ _ _ _ _ w5.drew
      go_wp2_with fail
      refine (hrec.out w5 hB5).mono ?_
      rintro e w6 ⟨rfl, h6⟩
      have hnx := Lib.hid (show HI w1 c b ((H ++ wkL p.data.toList (x :: r) deep (v.take i)) ++ wkF p.data.toList (x :: r) deep (t.fs.take (k + 1))) w6 from by
       rw [af4 _ _ _ hf, adx _ _ _ _ _ (.inl (by rw [← hs2, e1])), ← List.append_assoc, ← hs3, ← aqf]; exact h6)
      clear h6
      go_wp2_with fail
      go_roundg m2
      case measure => omega
      case rel => exact ⟨k + 1, by omega, by go_num, ⟨hnx.out⟩⟩
     ·have d1 : (s2.toList == [42]) = false := beq_eq_false_iff_ne.2 fun h => e1 (hinj (h.trans (by rw [Lib.toList_data])))
      by_cases e2 : s2 = s3
      ·have d2 : (s2.toList == s3.toList) = true := by rw [e2]; exact beq_self_eq_true _
       have d3 : (s3.toList == [42]) = false := by rw [← e2]; exact d1
       go_quiet (fail)
       go_wp2
       have hB5 : Below wr.heap.size wr ((wr.alloc (.cells #[.string s3, .slice b3 n3 c3] 110)).drewN nq) := ⟨rfl, rfl, rfl, ((Below.refl _ wr).alloc (Nat.le_refl _) (.cells #[.string s3, .slice b3 n3 c3] 110)).size, ((Below.refl _ wr).alloc (Nat.le_refl _) (.cells #[.string s3, .slice b3 n3 c3] 110)).block⟩
       have z1 : ((wr.alloc (.cells #[.string s3, .slice b3 n3 c3] 110)).drewN nq).cell? ⟨wr.heap.size, 1, none⟩ = some (.slice b3 n3 c3) := by
        show (wr.alloc _).cell? _ = _
        rw [cell_of (heap_alloc_new wr _)]; rfl
       generalize ((wr.alloc (.cells #[.string s3, .slice b3 n3 c3] 110)).drewN nq) = w5 at hB5 z1 ⊢
       go_still_tail 7, (by kernel_rfl)
       rw [← hAb]
       clear hAb
       change wpList _ _ _ _ _ w5.drew
       go_wp2_with fail
       refine (hrec.out w5 hB5).mono ?_
       rintro e w6 ⟨rfl, h6⟩
       have hnx := Lib.hid (show HI w1 c b ((H ++ wkL p.data.toList (x :: r) deep (v.take i)) ++ wkF p.data.toList (x :: r) deep (t.fs.take (k + 1))) w6 from by
        rw [af4 _ _ _ hf, adx _ _ _ _ _ (.inr (by rw [← hs2, ← hs3, e2])), ← List.append_assoc, ← hs3, ← aqf]; exact h6)
       clear h6
       go_wp2_with fail
       go_roundg m2
       case measure => omega
       case rel => exact ⟨k + 1, by omega, by go_num, ⟨hnx.out⟩⟩
      ·have d2 : (s2.toList == s3.toList) = false := beq_eq_false_iff_ne.2 fun h => e2 (hinj h)
       go_quiet (fail)
       go_wp2
       have hno : ¬ (x = [42] ∨ x = f.n) := by
        rintro (h | h)
        ·exact e1 (hinj (by rw [Lib.toList_data, Lib.toList_data, hs2, h]))
        ·exact e2 (hinj (by rw [Lib.toList_data, Lib.toList_data, hs2, hs3, h]))
       have hnx := Lib.hid (show HI w1 c b ((H ++ wkL p.data.toList (x :: r) deep (v.take i)) ++ wkF p.data.toList (x :: r) deep (t.fs.take (k + 1))) ((wr.alloc (.cells #[.string s3, .slice b3 n3 c3] 110)).drewN nq) from by
        rw [af4 _ _ _ hf, aqe _ _ _ _ _ hno, List.append_nil]
        exact HF.out.below ⟨rfl, rfl, rfl, ((Below.refl _ wr).alloc (Nat.le_refl _) (.cells #[.string s3, .slice b3 n3 c3] 110)).size, ((Below.refl _ wr).alloc (Nat.le_refl _) (.cells #[.string s3, .slice b3 n3 c3] 110)).block⟩)
       go_roundg m2
       case measure => omega
       case rel => exact ⟨k + 1, by omega, by go_num, ⟨hnx.out⟩⟩
    ·obtain rfl : gk = 0 := by omega
     obtain rfl : k = t.fs.length := by omega
     have hnx := Lib.hid (show HI w1 c b (H ++ wkL p.data.toList (x :: r) deep (v.take (i + 1))) wr from by
      rw [as7 _ _ _ ht, ← List.append_assoc]
      have := HF.out
      rw [List.take_of_length_le (Nat.le_refl _)] at this; exact this)
     go_wp2_with fail
     go_roundg m1
     case measure => omega
     case rel => exact ⟨i + 1, by omega, by go_num, ⟨hnx.out⟩⟩
  ·obtain rfl : gk = 0 := by omega
   obtain rfl : i = v.length := by omega
   have hnx := Lib.hid (show HI w1 c b (H ++ wkL p.data.toList (x :: r) deep v) wr from by
    have := HM.out
    rw [List.take_of_length_le (Nat.le_refl _)] at this; exact this)
   go_wp2_with fail
   refine bodyPost_end (results_none rfl _ _ _) rfl ?_
   exact ⟨rfl, hnx.out⟩
theorem awh (w1 : World) (c : Cls) (b n : Nat) (hn : n ≤ 1073741824) (ih : ∀ m, m < n → amf w1 c b m) (v : List Tm) (deep : Bool) (p : ByteArray) (H : List Hit) (W : World) (vv lv : Value) (hs : szV v ≤ n) (hnm : nmL v = true) (hp : p.size + 17 * szV v ≤ 1099511627776) (hH : H.length + szV v + 1 ≤ 1073741824)
  (hV : Rep w1 c vv (.sl 8 (ak v))) (hL : Rep w1 c lv (.sl 1 (br []))) (hI : HI w1 c b H W) : Calls Tryz.prog 65 #[.string p, .agg #[vv], lv, .bool deep, .func (.func 66) #[] #[.pointer (some ⟨b, 0, none⟩)]] W fun e W' => e = .returned (.tuple #[]) ∧ HI w1 c b (H ++ wkV p.data.toList [] deep v) W' := by
 have hVv := hV
 obtain ⟨A, cap, rfl, hA⟩ := ame hV
 obtain ⟨A2, cap2, rfl, _⟩ := gz hL
 rw [show (br []).length = 0 from rfl] at hL ⊢
 have hvl := fx v
 have hgoal : wkV p.data.toList [] deep v = ⟨p.data.toList, v⟩ :: (if deep = true then wkL p.data.toList [] true v else []) := by unfold wkV; rw [if_pos rfl]
 rw [hgoal]
 have hB0 : Below W.heap.size W (W.alloc (.cells #[.slice A v.length cap] 45)) := (Below.refl _ W).alloc (Nat.le_refl _) _
 have hI0 := hI.below hB0
 have hC := Lib.hid (aei (szV v) (by omega) v _ (W.alloc (.cells #[.slice A v.length cap] 45)) _ (Nat.le_refl _) (hVv.ext (Abs.ig c hI0.bel)))
 have z0 : (W.alloc (.cells #[.slice A v.length cap] 45)).cell? ⟨W.heap.size, 0, none⟩ = some (.slice A v.length cap) := by rw [cell_of (heap_alloc_new W _)]; rfl
 replace hA := Lib.hid hA
 replace ih := Lib.hid ih
 have hWs : W.heap.size < (W.alloc (.cells #[.slice A v.length cap] 45)).heap.size := by simp
 clear hV hL hgoal hVv hI0
 go_enter Tryz.func65, Tryz.ntmps65
 go_wp2_with fail
 generalize (W.alloc (.cells #[.slice A v.length cap] 45)) = w0 at hB0 hC z0 hWs ⊢
 refine hC.out.mono ?_
 rintro e w2 ⟨v', fp, rfl, hB2, hO2, hnd⟩
 obtain ⟨bo, no, co, rfl⟩ := aeh hO2
 have hF := Lib.hid (aqd hI (gb hB0 hB2) (by omega) p (hO2.base hB0.size))
 have z2 : w2.cell? ⟨W.heap.size, 0, none⟩ = some (.slice A v.length cap) := (World.cell?_of_block (w := w0) (a := ⟨W.heap.size, 0, none⟩) (hB2.block W.heap.size hWs)).trans z0
 have hlt2 : W.heap.size < w2.heap.size := Nat.lt_of_lt_of_le hWs hB2.size
 clear hC hB2 hO2 hnd hB0 z0 hWs hI
 go_wp2_with fail
 refine hF.out.mono ?_
 rintro e w3 ⟨rfl, h3, hk3⟩
 have z3 : w3.cell? ⟨W.heap.size, 0, none⟩ = some (.slice A v.length cap) := (World.cell?_of_block (w := w2) (a := ⟨W.heap.size, 0, none⟩) (hk3 W.heap.size (Nat.le_refl _) hlt2)).trans z2
 have h3' := Lib.hid h3
 clear hF z2 hk3 h3
 cases deep with
 | false =>
  go_wp2_with fail
  refine bodyPost_ret (results_none rfl _ _ _) rfl ?_
  exact ⟨rfl, h3'.out⟩
 | true =>
  go_wp2_with fail
  go_loopg [29] v.length (fun gk v29 W => ∃ i : Nat, i + gk = v.length ∧ v29 = .int .i64 i ∧ Gr.Ax (HI w1 c b ((H ++ [⟨p.data.toList, v⟩]) ++ wkL p.data.toList [] true (v.take i)) W))
  case atStart => exact ⟨0, by omega, rfl, ⟨by rw [List.take_zero, wkL, List.append_nil]; exact h3'.out⟩⟩
  case round =>
   clear h3'
   obtain ⟨i, hig, rfl, HM⟩ := hrel
   by_cases hil : i < v.length
   ·obtain ⟨m1, rfl⟩ : ∃ j, gk = j + 1 := ⟨gk - 1, by omega⟩
    obtain ⟨t, ht⟩ : ∃ t, v[i]? = some t := ⟨v[i], List.getElem?_eq_getElem hil⟩
    obtain ⟨g, o, s, b1, n1, c1, rfl, q0, q1, q2, q3, q4, q5, q6, q7, hF⟩ := (hA.out i t ht).ex
    obtain ⟨Af, capf, e7, hAF⟩ := aiw hF
    cases e7
    have q0 := bu HM.out.bel q0
    have q1 := bu HM.out.bel q1
    have q2 := bu HM.out.bel q2
    have q3 := bu HM.out.bel q3
    have q4 := bu HM.out.bel q4
    have q5 := bu HM.out.bel q5
    have q6 := bu HM.out.bel q6
    have q7 := bu HM.out.bel q7
    have hzt := oe (List.mem_of_getElem? ht)
    rw [fq] at hzt
    have hfl := ie t.fs
    have hnt := ahl hnm (List.mem_of_getElem? ht)
    replace hAF := Lib.hid hAF
    clear hF
    go_wp2_with fail
    have hI2 := Lib.hid (HM.out.below ((Below.refl _ wr).alloc (Nat.le_refl _) (.cells #[.int .i64 t.k, .int .i64 t.lo, .int .i64 t.hi, .string s, .bool t.a, .bool t.m, .bool t.o, .slice b1 t.fs.length c1] 68)))
    have hlen2 := w9 p.data.toList [] true (v.take i)
    go_loopg [36] t.fs.length (fun gk v36 W => ∃ k : Nat, k + gk = t.fs.length ∧ v36 = .int .i64 k ∧ Gr.Ax (HI w1 c b (((H ++ [⟨p.data.toList, v⟩]) ++ wkL p.data.toList [] true (v.take i)) ++ wkF p.data.toList [] true (t.fs.take k)) W))
    case atStart => exact ⟨0, by omega, rfl, ⟨by rw [List.take_zero, wkF, List.append_nil]; exact hI2.out⟩⟩
    case round =>
     clear hI2 q0 q1 q2 q3 q4 q5 q6 q7
     obtain ⟨k, hkg, rfl, HF⟩ := hrel
     by_cases hkl : k < t.fs.length
     ·obtain ⟨m2, rfl⟩ : ∃ j, gk = j + 1 := ⟨gk - 1, by omega⟩
      obtain ⟨f, hf⟩ : ∃ f, t.fs[k]? = some f := ⟨t.fs[k], List.getElem?_eq_getElem hkl⟩
      obtain ⟨g3, o3, s3, b3, n3, c3, rfl, hs3, u0, u1, hV3⟩ := (hAF.out k f hf).ex
      have u0 := bu HF.out.bel u0
      have u1 := bu HF.out.bel u1
      have hzf := mv hf
      have hnf := ahm hnt (List.mem_of_getElem? hf)
      have hs3z : s3.size = f.n.length := by rw [Lib.size_eq, hs3]
      have hnf1 := hnf.1
      have hlen3 := ade p.data.toList [] true (t.fs.take k)
      have hsub := ach hf
      have hsubL := aci ht
      have hrec := Lib.hid fun (w5 : World) (hB5 : Below wr.heap.size wr w5) => ih.out (szV f.v) (by omega) f.v [] true (p ++ ⟨#[46]⟩ ++ s3) _ w5 (.slice b3 n3 c3) (.slice none 0 0) (Nat.le_refl _) hnf.2 (by rw [axd]; omega) (by
       rw [List.length_append, List.length_append, List.length_append, List.length_singleton]
       omega) hV3 (.nil _) (HF.out.below hB5)
      have hB5 : Below wr.heap.size wr (wr.alloc (.cells #[.string s3, .slice b3 n3 c3] 110)) := (Below.refl _ wr).alloc (Nat.le_refl _) _
      go_wp2_with fail
      refine (hrec.out _ hB5).mono ?_
      rintro e w6 ⟨rfl, h6⟩
      have hnx := Lib.hid (show HI w1 c b (((H ++ [⟨p.data.toList, v⟩]) ++ wkL p.data.toList [] true (v.take i)) ++ wkF p.data.toList [] true (t.fs.take (k + 1))) w6 from by
       rw [af4 _ _ _ hf, anh, ← List.append_assoc, ← hs3, ← aqf]; exact h6)
      clear h6
      go_wp2_with fail
      go_roundg m2
      case measure => omega
      case rel => exact ⟨k + 1, by omega, by go_num, ⟨hnx.out⟩⟩
     ·obtain rfl : gk = 0 := by omega
      obtain rfl : k = t.fs.length := by omega
      have hnx := Lib.hid (show HI w1 c b ((H ++ [⟨p.data.toList, v⟩]) ++ wkL p.data.toList [] true (v.take (i + 1))) wr from by
       rw [as7 _ _ _ ht, ← List.append_assoc]
       have := HF.out
       rw [List.take_of_length_le (Nat.le_refl _)] at this; exact this)
      go_wp2_with fail
      go_roundg m1
      case measure => omega
      case rel => exact ⟨i + 1, by omega, by go_num, ⟨hnx.out⟩⟩
   ·obtain rfl : gk = 0 := by omega
    obtain rfl : i = v.length := by omega
    have hnx := Lib.hid (show HI w1 c b (H ++ (⟨p.data.toList, v⟩ :: (if true = true then wkL p.data.toList [] true v else []))) wr from by
     have := HM.out
     rw [List.take_of_length_le (Nat.le_refl _)] at this
     rw [if_pos rfl, show ∀ X : List Hit, H ++ (⟨p.data.toList, v⟩ :: X) = (H ++ [⟨p.data.toList, v⟩]) ++ X from fun X => by simp]; exact this)
    go_wp2_with fail
    refine bodyPost_end (results_none rfl _ _ _) rfl ?_
    exact ⟨rfl, hnx.out⟩
theorem awi (w1 : World) (c : Cls) (b : Nat) : ∀ n, n ≤ 1073741824 → amf w1 c b n := by
 intro n
 induction n using Nat.strongRecOn with
 | _ n ih =>
  intro hn v l deep p H W vv lv hs hnm hp hH hV hL hI
  cases l with
  | nil => exact awh w1 c b n hn (fun m hm => ih m hm (by omega)) v deep p H W vv lv hs hnm hp hH hV hL hI
  | cons x r => exact as8 w1 c b n hn (fun m hm => ih m hm (by omega)) v x r deep p H W vv lv hs hnm hp hH hV hL hI
end Go.Proofs.YtmdimhcjogjcgaaGreatDoor.Qw
namespace Go.Proofs.YtmdimhcjogjcgaaGreatDoor.Lat
open Go.Proofs.YtmdimhcjogjcgaaGreatDoor.Abs
def uk (L : List Bs) : Bool := decide (1 < L.length) && decide (L[L.length - 1]? = some [42, 42])
def ef (L : List Bs) : List Bs × Bool := if uk L = true then (L.take (L.length - 1), true) else (L, false)
def il (x : Bs) : Bool := decide (x = [42]) || Rn x
def fk (s : Bs) : Bool := decide (s.length ≤ 272) && (decide ((Qw.al s).length ≤ 16) && (ef (Qw.al s)).1.all il)
def axe (l : List Bs) (d : Bool) (ok : Bool) : AV := if ok = true then .tup [.sl 1 (br l), .bool d, .bool true] else .tup [.own 1 [], .bool false, .bool false]
theorem adf (b : Bool) (l : List Bs) (hl : l.length ≤ 1073741824) : ∀ (d i : Nat), i + d = l.length → az.l1 (.sl 1 (br l)) (.bool b) (.sl 1 (br l)) (.int .i64 (l.length : Int)) (.int .i64 (i : Int)) = some (axe l b ((l.drop i).all il))
 | 0, i, h => by
  cases b
  ·rw [az.acf, decide_eq_false (by omega), ifF, bw (by omega)]; rfl
  ·rw [az.ib, decide_eq_false (by omega), ifF, bw (by omega)]; rfl
 | d + 1, i, h => by
  have h1 : i < l.length := by omega
  have e1 : l[i]? = some l[i] := List.getElem?_eq_getElem h1
  have ih := adf b l hl d (i + 1) (by omega)
  have hp : mg (.str l[i]) = some (.bool (Rn l[i])) := abf (aas _)
  rw [bc h1, List.all_cons]
  have hq : il l[i] = (decide (l[i] = [42]) || Rn l[i]) := rfl
  rw [hq]
  cases b
  ·rw [az.acf, decide_eq_true (by omega), ifT, ay (j4 e1), aav]
   simp only [gx]
   by_cases h42 : l[i] = [42]
   ·rw [decide_eq_true h42, Bool.not_true, ifF, ad, ifF, bf (by omega), ih, Bool.true_or, Bool.true_and]
   ·rw [decide_eq_false h42, Bool.not_false, ifT, hp, ad, en, ad, Bool.false_or]
    cases Rn l[i]
    ·rfl
    ·rw [Bool.not_true, ifF, bf (by omega), ih, Bool.true_and]
  ·rw [az.ib, decide_eq_true (by omega), ifT, ay (j4 e1), aav]
   simp only [gx]
   by_cases h42 : l[i] = [42]
   ·rw [decide_eq_true h42, Bool.not_true, ifF, ad, ifF, bf (by omega), ih, Bool.true_or, Bool.true_and]
   ·rw [decide_eq_false h42, Bool.not_false, ifT, hp, ad, en, ad, Bool.false_or]
    cases Rn l[i]
    ·rfl
    ·rw [Bool.not_true, ifF, bf (by omega), ih, Bool.true_and]
theorem awj {β γ : Type} (l : List β) (i : Nat) (h : i ≤ l.length) (k : List β → Option γ) : acp l (i : Int) k = k (l.take i) := by
 unfold acp
 rw [decide_eq_true (by omega), decide_eq_true (by omega), Int.toNat_natCast]; rfl
theorem as9 (d : List Bs) (i : Nat) : (br d).take i = br (d.take i) := by rw [br, br, List.map_take]
theorem awk (s : Bs) : az (.str s) = some (axe (ef (Qw.al s)).1 (ef (Qw.al s)).2 (fk s)) := by
 rw [az.ae]
 have hp : fk s = (decide (s.length ≤ 272) && (decide ((Qw.al s).length ≤ 16) && (ef (Qw.al s)).1.all il)) := rfl
 by_cases h1 : s.length ≤ 272
 ·rw [decide_eq_false (by omega), ifF, show yz (.str s) (.str [46]) = _ from azb (by omega), ad, ac8, df, hp, decide_eq_true h1, Bool.true_and]
  by_cases h2 : (Qw.al s).length ≤ 16
  ·rw [decide_eq_false (by omega), ifF, decide_eq_true h2, Bool.true_and]
   have h0 : 0 < (Qw.al s).length := by
    have := Qw.fj s
    cases h : Qw.al s with
    | nil => exact absurd h this
    | cons a b => simp
   generalize Qw.al s = L at h2 h0
   rw [tm (by omega) h0]
   have e1 : L[L.length - 1]? = some L[L.length - 1] := List.getElem?_eq_getElem (by omega)
   by_cases h3 : 1 < L.length
   ·rw [decide_eq_true (by omega), ifT, ay (j4 e1), aav]
    simp only [gx, ad]
    unfold ef uk
    rw [decide_eq_true h3, Bool.true_and, e1]
    by_cases h4 : L[L.length - 1] = [42, 42]
    ·rw [decide_eq_true h4, ifT, awj _ _ (by rw [df]; omega), as9, if_pos (by rw [h4]; rfl), az.aar, df]
     have := adf true (L.take (L.length - 1)) (by rw [List.length_take]; omega) _ 0 (Nat.zero_add _)
     rw [List.drop_zero] at this
     exact this
    ·rw [decide_eq_false h4, ifF, if_neg (by simpa using h4), az.as4, df]
     have := adf false L (by omega) _ 0 (Nat.zero_add _)
     rw [List.drop_zero] at this
     exact this
   ·rw [decide_eq_false (by omega), ifF]
    simp only [ad]
    unfold ef uk
    rw [decide_eq_false h3, Bool.false_and, ifF, if_neg (by simp), az.as4, df]
    have := adf false L (by omega) _ 0 (Nat.zero_add _)
    rw [List.drop_zero] at this
    exact this
  ·rw [decide_eq_true (by omega), ifT, decide_eq_false h2]; rfl
 ·rw [decide_eq_true (by omega), ifT, hp, decide_eq_false h1]; rfl
theorem aoo {s : Bs} : (ef (Qw.al s)).1 ≠ [] := by
 unfold ef uk
 split
 ·rename_i h
  rw [Bool.and_eq_true] at h
  have h1 := of_decide_eq_true h.1
  intro e
  have := congrArg List.length e
  rw [List.length_take, List.length_nil] at this
  omega
 ·exact Qw.fj s
end Go.Proofs.YtmdimhcjogjcgaaGreatDoor.Lat
