/- All paths of a value, by definition; rows of any kind that one holds. -/
import Derived.Test.YtmdimhcjogjcgaaGreatDoorGbh
import Derived.Deep.RegionHeld3
import Derived.Deep.AppendLies
import Derived.Deep.DrawnRows
import Derived.Deep.QuietTactic
import Derived.BigQuiet
import Derived.StillTailTactics
set_option linter.all false
set_option maxRecDepth 100000
set_option maxHeartbeats 8000000
noncomputable section
namespace Go.Proofs.YtmdimhcjogjcgaaGreatDoor.Lat
structure RH where
 p : List Bs
 v : List Tm
def ah8 (h : RH) : List Abs.AV := [.sl 1 (ar h.p), .sl 8 (al h.v)]
def fk (l : List RH) : List (List Abs.AV) := l.map ah8
theorem adr {l : List RH} {i : Nat} {t : RH} (h : l[i]? = some t) : (fk l)[i]? = some (ah8 t) := by rw [fk, List.getElem?_map, h]; rfl
theorem oq (l : List RH) : (fk l).length = l.length := by simp [fk]
mutual
def ads (p : List Bs) : Tm → List RH
 | .mk _ _ _ _ _ _ _ fs => kc p fs
def kc (p : List Bs) : List Fd → List RH
 | [] => []
 | .mk n v :: r => (⟨p ++ [n], v⟩ :: il (p ++ [n]) v) ++ kc p r
def il (p : List Bs) : List Tm → List RH
 | [] => []
 | t :: r => ads p t ++ il p r
end
def qb (p : List Bs) (v : List Tm) : List RH := ⟨p, v⟩ :: il p v
theorem bcr (p : List Bs) (t : Tm) : ads p t = kc p t.fs := by cases t; rw [ads]; rfl
theorem ah9 (p : List Bs) (f : Fd) (r : List Fd) : kc p (f :: r) = qb (p ++ [f.n]) f.v ++ kc p r := by cases f; rw [kc]; rfl
theorem aia (p : List Bs) (t : Tm) (r : List Tm) : il p (t :: r) = kc p t.fs ++ il p r := by rw [il, bcr]
theorem a86 (p : List Bs) (a : List Tm) : ∀ b : List Tm, il p (a ++ b) = il p a ++ il p b := by
 induction a with
 | nil => intro b; rw [il]; rfl
 | cons t r ih => intro b; rw [List.cons_append, aia, aia, ih, List.append_assoc]
theorem a88 (p : List Bs) (a : List Fd) : ∀ b : List Fd, kc p (a ++ b) = kc p a ++ kc p b := by
 induction a with
 | nil => intro b; rw [kc]; rfl
 | cons t r ih => intro b; rw [List.cons_append, ah9, ah9, ih, List.append_assoc]
theorem a4o (p : List Bs) {v : List Tm} {i : Nat} {t : Tm} (h : v[i]? = some t) : il p (v.take (i + 1)) = il p (v.take i) ++ kc p t.fs := by
 rw [List.take_add_one, h]
 show il p (v.take i ++ [t]) = _
 rw [a86, aia, il, List.append_nil]
theorem a4p (p : List Bs) {fs : List Fd} {i : Nat} {f : Fd} (h : fs[i]? = some f) : kc p (fs.take (i + 1)) = kc p (fs.take i) ++ qb (p ++ [f.n]) f.v := by
 rw [List.take_add_one, h]
 show kc p (fs.take i ++ [f]) = _
 rw [a88, ah9, kc, List.append_nil]
mutual
theorem a89 (p : List Bs) : ∀ t : Tm, (ads p t).length ≤ szT t
 | .mk _ _ _ _ _ _ _ fs => by rw [ads, szT]; have := ak7 p fs; omega
theorem ak7 (p : List Bs) : ∀ fs : List Fd, (kc p fs).length ≤ szF fs
 | [] => by rw [kc]; exact Nat.zero_le _
 | .mk n v :: r => by
  have h1 := ak7 p r
  have h2 := agy (p ++ [n]) v
  rw [kc, szF, List.length_append, List.length_cons]; omega
theorem agy (p : List Bs) : ∀ v : List Tm, (il p v).length ≤ szV v
 | [] => by rw [il]; exact Nat.zero_le _
 | t :: r => by
  have h1 := a89 p t
  have h2 := agy p r
  rw [il, szV, List.length_append]; omega
end
theorem ak8 (p : List Bs) (v : List Tm) : (qb p v).length ≤ szV v + 1 := by
 have := agy p v
 rw [qb, List.length_cons]; omega
end Go.Proofs.YtmdimhcjogjcgaaGreatDoor.Lat
namespace Go.Proofs.YtmdimhcjogjcgaaGreatDoor.Qw
open Go.RowKit Go.Lib Go.Proofs.YtmdimhcjogjcgaaGreatDoor.Abs Go.Proofs.YtmdimhcjogjcgaaGreatDoor.Lat Go.Proofs.YtmdimhcjogjcgaaGreatDoor.Lat.Cp Go.Proofs.YtmdimhcjogjcgaaGreatDoor.Gr Go.Proofs.YtmdimhcjogjcgaaGreatDoor.Th
structure PR (w : World) (B : Nat) (c : Cls) (ty sz : Nat) (v : Value) (L : List (List AV)) : Prop where
 ex : ∃ us, w.ownsRow B ty sz v L.length us ∧ CLL w (Sx B c v) sz us L
theorem am5 {w : World} {B : Nat} {c : Cls} {ty sz : Nat} {v : Value} {L : List (List AV)} (h : PR w B c ty sz v L) : ∀ g, v.ownBlock = some g → B ≤ g ∧ g < w.heap.size := fun g e => by
 obtain ⟨us, ⟨h1, ⟨rfl, h2⟩ | ⟨g', cap, cur, rfl, h3, h4, _⟩⟩, _⟩ := h.ex
 ·cases e
 ·cases e; exact ⟨h3, fj h4⟩
theorem a4q {w w' : World} {B : Nat} {c : Cls} {sz : Nat} {v v' : Value} {us : List Value} {L : List (List AV)} (h : CLL w (Sx B c v) sz us L) (hg : w.grownBy w' v.ownBlock) (hat : v'.ownBlock = v.ownBlock ∨ v'.ownBlock = some w.heap.size) : CLL w' (Sx B c v') sz us L :=
 ⟨h.1, h.2.1, fun i j cs x u p q r => a0c (h.2.2 i j cs x u p q r) hg hat⟩
theorem PR.app {w w' : World} {B : Nat} {c : Cls} {ty sz : Nat} {v v' : Value} {L M : List (List AV)} {us news : List Value} (hc : CLL w (Sx B c v) sz us L) (hm : CLL w (Sx B c v) sz news M)
  (hown : w'.ownsRow B ty sz v' (L.length + M.length) (us ++ news)) (hg : w.grownBy w' v.ownBlock) (hat : v'.ownBlock = v.ownBlock ∨ v'.ownBlock = some w.heap.size) : PR w' B c ty sz v' (L ++ M) :=
 ⟨us ++ news, by rw [List.length_append]; exact hown, a4q (hc.append hm) hg hat⟩
theorem bi5 {w w' : World} {B t k n : Nat} {v : Value} {xs : List Value} (h : w.ownsRow B t k v n xs) (hB : Below w.heap.size w w') : w'.ownsRow B t k v n xs := by
 obtain ⟨h1, h2 | ⟨g, cap, cur, rfl, h3, h4, h5⟩⟩ := h
 ·exact ⟨h1, .inl h2⟩
 ·exact ⟨h1, .inr ⟨g, cap, cur, rfl, h3, (hB.block g (fj h4)).trans h4, h5⟩⟩
theorem PR.below {w w' : World} {B : Nat} {c : Cls} {ty sz : Nat} {v : Value} {L : List (List AV)} (h : PR w B c ty sz v L) (hB : Below w.heap.size w w') : PR w' B c ty sz v L := by
 obtain ⟨us, h1, h2⟩ := h.ex
 exact ⟨us, bi5 h1 hB, h2.ext (ak3 hB.size hB.os hB.tape hB.output fun b i hb hl => ⟨hB.block b hl, hb⟩)⟩
theorem PR.rep {w : World} {B : Nat} {c : Cls} {ty sz : Nat} {v : Value} {L : List (List AV)} (h : PR w B c ty sz v L) : Rep w (fun b => if b < B then c b else .frz) v (.sl sz L) := by
 obtain ⟨us, ⟨h1, h2⟩, h3⟩ := h.ex
 have h3' : CLL w (fun b => if b < B then c b else .frz) sz us L := h3.ext (ak3 (Nat.le_refl _) rfl rfl rfl fun b i hb _ => ⟨rfl, zu.2 (acf.1 hb).2⟩)
 rcases h2 with ⟨rfl, h2⟩ | ⟨g, cap, cur, rfl, h4, h5, h6, h7, h8, h9⟩
 ·obtain rfl := List.eq_nil_of_length_eq_zero h2
  exact .nil _
 ·refine aag h5 h3' h6 (fun k u hu => ?_) fun k hk => zu.2 fun h => by omega
  rw [← h9, List.getElem?_take] at hu
  split at hu
  ·simpa using hu
  ·cases hu
theorem bgg {w : World} {B : Nat} {c : Cls} {v : Value} {W : World} {u : Value} {a : AV} (h : Rep W (fun b => if b < w.heap.size then Sx B c v b else .frz) u a) (hv : ∀ g, v.ownBlock = some g → g < w.heap.size) (hw : B ≤ w.heap.size) : Rep W (Sx B c v) u a :=
 h.ext (ak3 (Nat.le_refl _) rfl rfl rfl fun b i hb _ => ⟨rfl, by
  have := zu.1 hb
  by_cases hl : b < w.heap.size
  ·exact this hl
  ·refine acf.2 ⟨fun e => hl (hv b e), fun h => by omega⟩⟩)
theorem bgh {w w' : World} {B t k n : Nat} {v : Value} {xs : List Value} (h : w.ownsRow B t k v n xs) (hB : Below w.heap.size w w') : w'.ownsRow B t k v n xs := by
 obtain ⟨h1, h2 | ⟨g, cap, cur, rfl, h3, h4, h5⟩⟩ := h
 ·exact ⟨h1, .inl h2⟩
 ·exact ⟨h1, .inr ⟨g, cap, cur, rfl, h3, (hB.block g (fj h4)).trans h4, h5⟩⟩
theorem uk.below {w w' : World} {B b : Nat} {c : Cls} {v : Value} {l : List Hit} (h : uk w B b c v l) (hB : Below w.heap.size w w') : uk w' B b c v l := by
 obtain ⟨xs, h1, h2⟩ := h.ex
 refine ⟨xs, bgh h1 hB, fun i t j a hi hj => ?_⟩
 obtain ⟨x, e, hr⟩ := h2 i t j a hi hj
 exact ⟨x, e, aep hr hB.size hB.os hB.tape hB.output (fun q hq _ _ => hB.block q hq) (.inl rfl)⟩
theorem HI.below {w1 W W' : World} {c : Cls} {b : Nat} {l : List Hit} (h : HI w1 c b l W) (hB : Below W.heap.size W W') : HI w1 c b l W' := by
 obtain ⟨v, h1, h2, h3⟩ := h.ex
 exact ⟨⟨v, (hB.block b (fj h1)).trans h1, h2.below hB, h3⟩, gl h.bel (Nat.le_refl _) hB, h.ge⟩
theorem a0h {w1 W W' : World} {c : Cls} {b : Nat} {l : List Hit} (h : HI w1 c b l W) (hB : Below W.heap.size W W') (hl : l.length ≤ 1073741824) (s : ByteArray) {A : Option Addr} {n cap : Nat} {ts : List Tm} {fp : List Nat} (hO : OV W' W.heap.size (.slice A n cap) ts fp) :
  Calls Tryz.prog 66 #[.agg #[.string s, .slice A n cap], .pointer (some ⟨b, 0, none⟩)] W' fun e W2 => e = .returned (.tuple #[]) ∧ HI w1 c b (l ++ [⟨s.data.toList, ts⟩]) W2 ∧ ∀ q, W.heap.size ≤ q → q < W'.heap.size → W2.heap[q]? = W'.heap[q]? := by
 obtain ⟨v, h1, h2, h3⟩ := (h.below hB).ex
 obtain ⟨v0, g1, g2, g3⟩ := h.ex
 have hv : v0 = v := by
  have := (hB.block b (fj g1)).trans g1
  rw [h1] at this
  simpa using this.symm
 subst hv
 have hblk := avg g2
 have hlt := fj g1
 have hbel := (h.below hB).bel
 refine (a4n w1 c b l W' hl v0 h1 h2 h3 hbel h.ge s A n cap ts (hO.rep fun q hq => ?_)).mono fun e W2 ⟨he, hi, hk⟩ => ⟨he, hi, fun q hq1 hq2 => hk q hq2 (by omega) fun e => ?_⟩
 case refine_2 => have := (hblk q e).2; omega
 unfold Hx
 have hw := h.bel.size
 rw [if_neg, if_neg (by omega)]
 rintro (e | e)
 ·have := (hblk q e).2; omega
 ·omega
def avh (w1 : World) (c : Cls) (b n : Nat) : Prop := ∀ (v : List Tm) (l : List Bs) (deep : Bool) (p : ByteArray) (H : List Hit) (W : World) (vv lv : Value), szV v ≤ n → nmL v = true → p.size + 17 * szV v ≤ 1099511627776 → H.length + szV v + 1 ≤ 1073741824 →
 Rep w1 c vv (.sl 8 (al v)) → Rep w1 c lv (.sl 1 (ar l)) → HI w1 c b H W → Calls Tryz.prog 65 #[.string p, .agg #[vv], lv, .bool deep, .func (.func 66) #[] #[.pointer (some ⟨b, 0, none⟩)]] W fun e W' => e = .returned (.tuple #[]) ∧ HI w1 c b (H ++ wkV p.data.toList l deep v) W'
theorem a4r (p : Bs) (l : List Bs) (deep : Bool) {v : List Tm} {i : Nat} {t : Tm} (h : v[i]? = some t) : wkL p l deep (v.take (i + 1)) = wkL p l deep (v.take i) ++ wkF p l deep t.fs := by
 rw [List.take_add_one, h]
 show wkL p l deep (v.take i ++ [t]) = _
 rw [bcn, ak5, wkL, List.append_nil]
theorem am6 (p : Bs) (l : List Bs) (deep : Bool) {fs : List Lat.Fd} {i : Nat} {f : Lat.Fd} (h : fs[i]? = some f) : wkF p l deep (fs.take (i + 1)) = wkF p l deep (fs.take i) ++ wkF p l deep [f] := by
 rw [List.take_add_one, h]
 exact bco ..
theorem awg (p : Bs) (deep : Bool) (f : Lat.Fd) : wkF p [] deep [f] = wkV (p ++ 46 :: f.n) [] true f.v := by rw [adq, wkF, List.append_nil]
theorem aj4 (p : Bs) (x : Bs) (l : List Bs) (deep : Bool) (f : Lat.Fd) (h : x = [42] ∨ x = f.n) : wkF p (x :: l) deep [f] = wkV (p ++ 46 :: f.n) l deep f.v := by rw [adq, wkF, List.append_nil]; exact if_pos h
theorem a0i (p : Bs) (x : Bs) (l : List Bs) (deep : Bool) (f : Lat.Fd) (h : ¬ (x = [42] ∨ x = f.n)) : wkF p (x :: l) deep [f] = [] := by rw [adq, wkF, List.append_nil]; exact if_neg h
theorem bak (p s : ByteArray) : (p ++ ⟨#[46]⟩ ++ s).size = p.size + 1 + s.size := by
 rw [ByteArray.size_append, ByteArray.size_append]; rfl
theorem a0j (p s : ByteArray) : (p ++ ⟨#[46]⟩ ++ s).data.toList = p.data.toList ++ 46 :: s.data.toList := by
 simp [ByteArray.data_append]
theorem avi {w : World} {c : Cls} {g o cap : Nat} {r : List Bs} (hc : r.length + 1 ≤ cap) (h : Rep w c (.slice (some ⟨g, o + 1, none⟩) r.length (cap - 1)) (.sl 1 (ar r))) : Rep w c (.slice (if cap = 1 then some ⟨g, o, none⟩ else some ⟨g, o + 1, none⟩) r.length (cap - 1)) (.sl 1 (ar r)) := by
 by_cases h1 : cap = 1
 ·rw [if_pos h1]
  have h0 : r.length = 0 := by omega
  obtain rfl := List.eq_nil_of_length_eq_zero h0
  exact .emp _ _ _
 ·rw [if_neg h1]; exact h
theorem aer : ∀ {fs : List Lat.Fd} {k : Nat} {f : Lat.Fd}, fs[k]? = some f → szF (fs.take k) + (1 + szV f.v) ≤ szF fs
 | .mk n v :: r, 0, f, h => by
  cases h
  show szF [] + (1 + szV v) ≤ _
  rw [szF, szF]; omega
 | .mk n v :: r, k + 1, f, h => by
  have := aer (fs := r) (k := k) (f := f) (by simpa using h)
  rw [List.take_succ_cons, szF, szF]; omega
theorem aes : ∀ {v : List Tm} {i : Nat} {t : Tm}, v[i]? = some t → szV (v.take i) + (1 + szF t.fs) ≤ szV v
 | t :: r, 0, u, h => by
  cases h
  show szV [] + _ ≤ _
  rw [szV, szV, fw]; omega
 | t :: r, i + 1, u, h => by
  have := aes (v := r) (i := i) (t := u) (by simpa using h)
  rw [List.take_succ_cons, szV, szV]; omega
theorem a4s (w1 : World) (c : Cls) (b n : Nat) (hn : n ≤ 1073741824) (ih : ∀ m, m < n → avh w1 c b m) (v : List Tm) (x : Bs) (r : List Bs) (deep : Bool) (p : ByteArray) (H : List Hit) (W : World) (vv lv : Value) (hs : szV v ≤ n) (hnm : nmL v = true) (hp : p.size + 17 * szV v ≤ 1099511627776) (hH : H.length + szV v + 1 ≤ 1073741824)
  (hV : Rep w1 c vv (.sl 8 (al v))) (hL : Rep w1 c lv (.sl 1 (ar (x :: r)))) (hI : HI w1 c b H W) : Calls Tryz.prog 65 #[.string p, .agg #[vv], lv, .bool deep, .func (.func 66) #[] #[.pointer (some ⟨b, 0, none⟩)]] W fun e W' => e = .returned (.tuple #[]) ∧ HI w1 c b (H ++ wkV p.data.toList (x :: r) deep v) W' := by
 obtain ⟨A, cap, rfl, hA⟩ := ak6 hV
 obtain ⟨g2, o2, s2, cap2, rfl, hcap2, hs2, hl0, hLr⟩ := am4 hL
 have hvl := fh v
 have hgoal : wkV p.data.toList (x :: r) deep v = wkL p.data.toList (x :: r) deep v := by unfold wkV; rw [if_neg (by simp)]
 rw [hgoal]
 replace hA := Lib.hid hA
 replace hl0 := Lib.hid hl0
 replace hLr := Lib.hid hLr
 replace ih := Lib.hid ih
 clear hV hL hgoal
 have hI' := Lib.hid (hI.below ((Below.refl _ W).alloc (Nat.le_refl _) (.cells #[.slice A v.length cap] 45)))
 have hk := hI.bel
 clear hI
 go_enter Tryz.func65, Tryz.ntmps65
 go_wp2_with fail
 go_loopg [29] v.length (fun gk v29 W => ∃ i : Nat, i + gk = v.length ∧ v29 = .int .i64 i ∧ Gr.Ax (HI w1 c b (H ++ wkL p.data.toList (x :: r) deep (v.take i)) W))
 case atStart => exact ⟨0, by omega, rfl, ⟨by rw [List.take_zero, wkL, List.append_nil]; exact hI'.out⟩⟩
 case round =>
  clear hI'
  obtain ⟨i, hig, rfl, HM⟩ := hrel
  by_cases hil : i < v.length
  ·obtain ⟨m1, rfl⟩ : ∃ j, gk = j + 1 := ⟨gk - 1, by omega⟩
   obtain ⟨t, ht⟩ : ∃ t, v[i]? = some t := ⟨v[i], List.getElem?_eq_getElem hil⟩
   obtain ⟨g, o, s, b1, n1, c1, rfl, q0, q1, q2, q3, q4, q5, q6, q7, hF⟩ := (hA.out i t ht).ex
   obtain ⟨Af, capf, e7, hAF⟩ := aeq hF
   cases e7
   have q0 := cg HM.out.bel q0
   have q1 := cg HM.out.bel q1
   have q2 := cg HM.out.bel q2
   have q3 := cg HM.out.bel q3
   have q4 := cg HM.out.bel q4
   have q5 := cg HM.out.bel q5
   have q6 := cg HM.out.bel q6
   have q7 := cg HM.out.bel q7
   have hzt := ll (List.mem_of_getElem? ht)
   rw [fw] at hzt
   have hfl := gw t.fs
   have hnt := aoq hnm (List.mem_of_getElem? ht)
   replace hAF := Lib.hid hAF
   clear hF
   go_wp2_with fail
   have hI2 := Lib.hid (HM.out.below ((Below.refl _ wr).alloc (Nat.le_refl _) (.cells #[.int .i64 t.k, .int .i64 t.lo, .int .i64 t.hi, .string s, .bool t.a, .bool t.m, .bool t.o, .slice b1 t.fs.length c1] 68)))
   have hlen2 := acg p.data.toList (x :: r) deep (v.take i)
   go_loopg [36] t.fs.length (fun gk v36 W => ∃ k : Nat, k + gk = t.fs.length ∧ v36 = .int .i64 k ∧ Gr.Ax (HI w1 c b ((H ++ wkL p.data.toList (x :: r) deep (v.take i)) ++ wkF p.data.toList (x :: r) deep (t.fs.take k)) W))
   case atStart => exact ⟨0, by omega, rfl, ⟨by rw [List.take_zero, wkF, List.append_nil]; exact hI2.out⟩⟩
   case round =>
    clear hI2 q0 q1 q2 q3 q4 q5 q6 q7
    obtain ⟨k, hkg, rfl, HF⟩ := hrel
    by_cases hkl : k < t.fs.length
    ·obtain ⟨m2, rfl⟩ : ∃ j, gk = j + 1 := ⟨gk - 1, by omega⟩
     obtain ⟨f, hf⟩ : ∃ f, t.fs[k]? = some f := ⟨t.fs[k], List.getElem?_eq_getElem hkl⟩
     obtain ⟨g3, o3, s3, b3, n3, c3, rfl, hs3, u0, u1, hV3⟩ := (hAF.out k f hf).ex
     have u0 := cg HF.out.bel u0
     have u1 := cg HF.out.bel u1
     have l0 := cg HF.out.bel hl0.out
     have hzf := pr hf
     have hnf := aor hnt (List.mem_of_getElem? hf)
     have hs3z : s3.size = f.n.length := by rw [Lib.size_eq, hs3]
     go_wp2_with fail
     have l1 : (wr.alloc (.cells #[.string s3, .slice b3 n3 c3] 110)).cell? ⟨g2, o2, none⟩ = some (.string s2) := by
      rw [World.cell?_alloc_old _ _ _ (Nat.ne_of_lt (wc l0))]; exact l0
     have l2 : (wr.alloc (.cells #[.string s3, .slice b3 n3 c3] 110)).cell? ⟨wr.heap.size, 0, none⟩ = some (.string s3) := by
      rw [cell_of (heap_alloc_new wr _)]; rfl
     have hinj : ∀ {u v : ByteArray}, u.toList = v.toList → u = v := fun {u v} h => by
      rw [Lib.toList_data, Lib.toList_data] at h
      cases u with | mk u => cases v with | mk v => exact congrArg ByteArray.mk (Array.ext' h)
     have ix1 : (1 : Int) ≤ (r.length : Int) + 1 := by omega
     have hnf1 := hnf.1
     have hlen3 := ajh p.data.toList (x :: r) deep (t.fs.take k)
     have hsub := aer hf
     have hsubL := aes ht
     obtain ⟨Ab, hAb⟩ : ∃ Ab : Option Addr, Ab = if cap2 = 1 then some ⟨g2, o2, none⟩ else some ⟨g2, o2 + 1, none⟩ := ⟨_, rfl⟩
     have hTl : Rep w1 c (.slice Ab r.length (cap2 - 1)) (.sl 1 (ar r)) := by rw [hAb]; exact avi hcap2 hLr.out
     have hrec := Lib.hid fun (w5 : World) (hB5 : Below wr.heap.size wr w5) => ih.out (szV f.v) (by omega) f.v r deep (p ++ ⟨#[46]⟩ ++ s3) _ w5.drew (.slice b3 n3 c3) _ (Nat.le_refl _) hnf.2 (by rw [bak]; omega) (by
      rw [List.length_append, List.length_append]
      omega) hV3 hTl ((HF.out.below hB5).below ((Below.refl _ w5).drew))
     by_cases e1 : s2 = ⟨#[42]⟩
     ·have d1 : (s2.toList == (⟨#[42]⟩ : ByteArray).toList) = true := by rw [e1]; exact beq_self_eq_true _
      go_quiet (fail)
      go_wp2
      have hB5 : Below wr.heap.size wr ((wr.alloc (.cells #[.string s3, .slice b3 n3 c3] 110)).drewN nq) := ⟨rfl, rfl, rfl, ((Below.refl _ wr).alloc (Nat.le_refl _) (.cells #[.string s3, .slice b3 n3 c3] 110)).size, ((Below.refl _ wr).alloc (Nat.le_refl _) (.cells #[.string s3, .slice b3 n3 c3] 110)).block⟩
      have z1 : ((wr.alloc (.cells #[.string s3, .slice b3 n3 c3] 110)).drewN nq).cell? ⟨wr.heap.size, 1, none⟩ = some (.slice b3 n3 c3) := by
       show (wr.alloc _).cell? _ = _
       rw [cell_of (heap_alloc_new wr _)]; rfl
      generalize ((wr.alloc (.cells #[.string s3, .slice b3 n3 c3] 110)).drewN nq) = w5 at hB5 z1 ⊢
      go_still_tail 7, (by kernel_rfl)
      rw [← hAb]
      clear hAb
      change wpList _ _ _ _ _ w5.drew
      go_wp2_with fail
      refine (hrec.out w5 hB5).mono ?_
      rintro e w6 ⟨rfl, h6⟩
      have hnx := Lib.hid (show HI w1 c b ((H ++ wkL p.data.toList (x :: r) deep (v.take i)) ++ wkF p.data.toList (x :: r) deep (t.fs.take (k + 1))) w6 from by
       rw [am6 _ _ _ hf, aj4 _ _ _ _ _ (.inl (by rw [← hs2, e1])), ← List.append_assoc, ← hs3, ← a0j]; exact h6)
      clear h6
      go_wp2_with fail
      go_roundg m2
      case measure => omega
      case rel => exact ⟨k + 1, by omega, by go_num, ⟨hnx.out⟩⟩
     ·have d1 : (s2.toList == [42]) = false := beq_eq_false_iff_ne.2 fun h => e1 (hinj (h.trans (by rw [Lib.toList_data])))
      by_cases e2 : s2 = s3
      ·have d2 : (s2.toList == s3.toList) = true := by rw [e2]; exact beq_self_eq_true _
       have d3 : (s3.toList == [42]) = false := by rw [← e2]; exact d1
       go_quiet (fail)
       go_wp2
       have hB5 : Below wr.heap.size wr ((wr.alloc (.cells #[.string s3, .slice b3 n3 c3] 110)).drewN nq) := ⟨rfl, rfl, rfl, ((Below.refl _ wr).alloc (Nat.le_refl _) (.cells #[.string s3, .slice b3 n3 c3] 110)).size, ((Below.refl _ wr).alloc (Nat.le_refl _) (.cells #[.string s3, .slice b3 n3 c3] 110)).block⟩
       have z1 : ((wr.alloc (.cells #[.string s3, .slice b3 n3 c3] 110)).drewN nq).cell? ⟨wr.heap.size, 1, none⟩ = some (.slice b3 n3 c3) := by
        show (wr.alloc _).cell? _ = _
        rw [cell_of (heap_alloc_new wr _)]; rfl
       generalize ((wr.alloc (.cells #[.string s3, .slice b3 n3 c3] 110)).drewN nq) = w5 at hB5 z1 ⊢
       go_still_tail 7, (by kernel_rfl)
       rw [← hAb]
       clear hAb
       change wpList _ _ _ _ _ w5.drew
       go_wp2_with fail
       refine (hrec.out w5 hB5).mono ?_
       rintro e w6 ⟨rfl, h6⟩
       have hnx := Lib.hid (show HI w1 c b ((H ++ wkL p.data.toList (x :: r) deep (v.take i)) ++ wkF p.data.toList (x :: r) deep (t.fs.take (k + 1))) w6 from by
        rw [am6 _ _ _ hf, aj4 _ _ _ _ _ (.inr (by rw [← hs2, ← hs3, e2])), ← List.append_assoc, ← hs3, ← a0j]; exact h6)
       clear h6
       go_wp2_with fail
       go_roundg m2
       case measure => omega
       case rel => exact ⟨k + 1, by omega, by go_num, ⟨hnx.out⟩⟩
      ·have d2 : (s2.toList == s3.toList) = false := beq_eq_false_iff_ne.2 fun h => e2 (hinj h)
       go_quiet (fail)
       go_wp2
       have hno : ¬ (x = [42] ∨ x = f.n) := by
        rintro (h | h)
        ·exact e1 (hinj (by rw [Lib.toList_data, Lib.toList_data, hs2, h]))
        ·exact e2 (hinj (by rw [Lib.toList_data, Lib.toList_data, hs2, hs3, h]))
       have hnx := Lib.hid (show HI w1 c b ((H ++ wkL p.data.toList (x :: r) deep (v.take i)) ++ wkF p.data.toList (x :: r) deep (t.fs.take (k + 1))) ((wr.alloc (.cells #[.string s3, .slice b3 n3 c3] 110)).drewN nq) from by
        rw [am6 _ _ _ hf, a0i _ _ _ _ _ hno, List.append_nil]
        exact HF.out.below ⟨rfl, rfl, rfl, ((Below.refl _ wr).alloc (Nat.le_refl _) (.cells #[.string s3, .slice b3 n3 c3] 110)).size, ((Below.refl _ wr).alloc (Nat.le_refl _) (.cells #[.string s3, .slice b3 n3 c3] 110)).block⟩)
       go_roundg m2
       case measure => omega
       case rel => exact ⟨k + 1, by omega, by go_num, ⟨hnx.out⟩⟩
    ·obtain rfl : gk = 0 := by omega
     obtain rfl : k = t.fs.length := by omega
     have hnx := Lib.hid (show HI w1 c b (H ++ wkL p.data.toList (x :: r) deep (v.take (i + 1))) wr from by
      rw [a4r _ _ _ ht, ← List.append_assoc]
      have := HF.out
      rw [List.take_of_length_le (Nat.le_refl _)] at this; exact this)
     go_wp2_with fail
     go_roundg m1
     case measure => omega
     case rel => exact ⟨i + 1, by omega, by go_num, ⟨hnx.out⟩⟩
  ·obtain rfl : gk = 0 := by omega
   obtain rfl : i = v.length := by omega
   have hnx := Lib.hid (show HI w1 c b (H ++ wkL p.data.toList (x :: r) deep v) wr from by
    have := HM.out
    rw [List.take_of_length_le (Nat.le_refl _)] at this; exact this)
   go_wp2_with fail
   refine bodyPost_end (results_none rfl _ _ _) rfl ?_
   exact ⟨rfl, hnx.out⟩
theorem a9a (w1 : World) (c : Cls) (b n : Nat) (hn : n ≤ 1073741824) (ih : ∀ m, m < n → avh w1 c b m) (v : List Tm) (deep : Bool) (p : ByteArray) (H : List Hit) (W : World) (vv lv : Value) (hs : szV v ≤ n) (hnm : nmL v = true) (hp : p.size + 17 * szV v ≤ 1099511627776) (hH : H.length + szV v + 1 ≤ 1073741824)
  (hV : Rep w1 c vv (.sl 8 (al v))) (hL : Rep w1 c lv (.sl 1 (ar []))) (hI : HI w1 c b H W) : Calls Tryz.prog 65 #[.string p, .agg #[vv], lv, .bool deep, .func (.func 66) #[] #[.pointer (some ⟨b, 0, none⟩)]] W fun e W' => e = .returned (.tuple #[]) ∧ HI w1 c b (H ++ wkV p.data.toList [] deep v) W' := by
 have hVv := hV
 obtain ⟨A, cap, rfl, hA⟩ := ak6 hV
 obtain ⟨A2, cap2, rfl, _⟩ := lr hL
 rw [show (ar []).length = 0 from rfl] at hL ⊢
 have hvl := fh v
 have hgoal : wkV p.data.toList [] deep v = ⟨p.data.toList, v⟩ :: (if deep = true then wkL p.data.toList [] true v else []) := by unfold wkV; rw [if_pos rfl]
 rw [hgoal]
 have hB0 : Below W.heap.size W (W.alloc (.cells #[.slice A v.length cap] 45)) := (Below.refl _ W).alloc (Nat.le_refl _) _
 have hI0 := hI.below hB0
 have hC := Lib.hid (ak2 (szV v) (by omega) v _ (W.alloc (.cells #[.slice A v.length cap] 45)) _ (Nat.le_refl _) (hVv.ext (Abs.ly c hI0.bel)))
 have z0 : (W.alloc (.cells #[.slice A v.length cap] 45)).cell? ⟨W.heap.size, 0, none⟩ = some (.slice A v.length cap) := by rw [cell_of (heap_alloc_new W _)]; rfl
 replace hA := Lib.hid hA
 replace ih := Lib.hid ih
 have hWs : W.heap.size < (W.alloc (.cells #[.slice A v.length cap] 45)).heap.size := by simp
 clear hV hL hgoal hVv hI0
 go_enter Tryz.func65, Tryz.ntmps65
 go_wp2_with fail
 generalize (W.alloc (.cells #[.slice A v.length cap] 45)) = w0 at hB0 hC z0 hWs ⊢
 refine hC.out.mono ?_
 rintro e w2 ⟨v', fp, rfl, hB2, hO2, hnd⟩
 obtain ⟨bo, no, co, rfl⟩ := ak1 hO2
 have hF := Lib.hid (a0h hI (je hB0 hB2) (by omega) p (hO2.base hB0.size))
 have z2 : w2.cell? ⟨W.heap.size, 0, none⟩ = some (.slice A v.length cap) := (World.cell?_of_block (w := w0) (a := ⟨W.heap.size, 0, none⟩) (hB2.block W.heap.size hWs)).trans z0
 have hlt2 : W.heap.size < w2.heap.size := Nat.lt_of_lt_of_le hWs hB2.size
 clear hC hB2 hO2 hnd hB0 z0 hWs hI
 go_wp2_with fail
 refine hF.out.mono ?_
 rintro e w3 ⟨rfl, h3, hk3⟩
 have z3 : w3.cell? ⟨W.heap.size, 0, none⟩ = some (.slice A v.length cap) := (World.cell?_of_block (w := w2) (a := ⟨W.heap.size, 0, none⟩) (hk3 W.heap.size (Nat.le_refl _) hlt2)).trans z2
 have h3' := Lib.hid h3
 clear hF z2 hk3 h3
 cases deep with
 | false =>
  go_wp2_with fail
  refine bodyPost_ret (results_none rfl _ _ _) rfl ?_
  exact ⟨rfl, h3'.out⟩
 | true =>
  go_wp2_with fail
  go_loopg [29] v.length (fun gk v29 W => ∃ i : Nat, i + gk = v.length ∧ v29 = .int .i64 i ∧ Gr.Ax (HI w1 c b ((H ++ [⟨p.data.toList, v⟩]) ++ wkL p.data.toList [] true (v.take i)) W))
  case atStart => exact ⟨0, by omega, rfl, ⟨by rw [List.take_zero, wkL, List.append_nil]; exact h3'.out⟩⟩
  case round =>
   clear h3'
   obtain ⟨i, hig, rfl, HM⟩ := hrel
   by_cases hil : i < v.length
   ·obtain ⟨m1, rfl⟩ : ∃ j, gk = j + 1 := ⟨gk - 1, by omega⟩
    obtain ⟨t, ht⟩ : ∃ t, v[i]? = some t := ⟨v[i], List.getElem?_eq_getElem hil⟩
    obtain ⟨g, o, s, b1, n1, c1, rfl, q0, q1, q2, q3, q4, q5, q6, q7, hF⟩ := (hA.out i t ht).ex
    obtain ⟨Af, capf, e7, hAF⟩ := aeq hF
    cases e7
    have q0 := cg HM.out.bel q0
    have q1 := cg HM.out.bel q1
    have q2 := cg HM.out.bel q2
    have q3 := cg HM.out.bel q3
    have q4 := cg HM.out.bel q4
    have q5 := cg HM.out.bel q5
    have q6 := cg HM.out.bel q6
    have q7 := cg HM.out.bel q7
    have hzt := ll (List.mem_of_getElem? ht)
    rw [fw] at hzt
    have hfl := gw t.fs
    have hnt := aoq hnm (List.mem_of_getElem? ht)
    replace hAF := Lib.hid hAF
    clear hF
    go_wp2_with fail
    have hI2 := Lib.hid (HM.out.below ((Below.refl _ wr).alloc (Nat.le_refl _) (.cells #[.int .i64 t.k, .int .i64 t.lo, .int .i64 t.hi, .string s, .bool t.a, .bool t.m, .bool t.o, .slice b1 t.fs.length c1] 68)))
    have hlen2 := acg p.data.toList [] true (v.take i)
    go_loopg [36] t.fs.length (fun gk v36 W => ∃ k : Nat, k + gk = t.fs.length ∧ v36 = .int .i64 k ∧ Gr.Ax (HI w1 c b (((H ++ [⟨p.data.toList, v⟩]) ++ wkL p.data.toList [] true (v.take i)) ++ wkF p.data.toList [] true (t.fs.take k)) W))
    case atStart => exact ⟨0, by omega, rfl, ⟨by rw [List.take_zero, wkF, List.append_nil]; exact hI2.out⟩⟩
    case round =>
     clear hI2 q0 q1 q2 q3 q4 q5 q6 q7
     obtain ⟨k, hkg, rfl, HF⟩ := hrel
     by_cases hkl : k < t.fs.length
     ·obtain ⟨m2, rfl⟩ : ∃ j, gk = j + 1 := ⟨gk - 1, by omega⟩
      obtain ⟨f, hf⟩ : ∃ f, t.fs[k]? = some f := ⟨t.fs[k], List.getElem?_eq_getElem hkl⟩
      obtain ⟨g3, o3, s3, b3, n3, c3, rfl, hs3, u0, u1, hV3⟩ := (hAF.out k f hf).ex
      have u0 := cg HF.out.bel u0
      have u1 := cg HF.out.bel u1
      have hzf := pr hf
      have hnf := aor hnt (List.mem_of_getElem? hf)
      have hs3z : s3.size = f.n.length := by rw [Lib.size_eq, hs3]
      have hnf1 := hnf.1
      have hlen3 := ajh p.data.toList [] true (t.fs.take k)
      have hsub := aer hf
      have hsubL := aes ht
      have hrec := Lib.hid fun (w5 : World) (hB5 : Below wr.heap.size wr w5) => ih.out (szV f.v) (by omega) f.v [] true (p ++ ⟨#[46]⟩ ++ s3) _ w5 (.slice b3 n3 c3) (.slice none 0 0) (Nat.le_refl _) hnf.2 (by rw [bak]; omega) (by
       rw [List.length_append, List.length_append, List.length_append, List.length_singleton]
       omega) hV3 (.nil _) (HF.out.below hB5)
      have hB5 : Below wr.heap.size wr (wr.alloc (.cells #[.string s3, .slice b3 n3 c3] 110)) := (Below.refl _ wr).alloc (Nat.le_refl _) _
      go_wp2_with fail
      refine (hrec.out _ hB5).mono ?_
      rintro e w6 ⟨rfl, h6⟩
      have hnx := Lib.hid (show HI w1 c b (((H ++ [⟨p.data.toList, v⟩]) ++ wkL p.data.toList [] true (v.take i)) ++ wkF p.data.toList [] true (t.fs.take (k + 1))) w6 from by
       rw [am6 _ _ _ hf, awg, ← List.append_assoc, ← hs3, ← a0j]; exact h6)
      clear h6
      go_wp2_with fail
      go_roundg m2
      case measure => omega
      case rel => exact ⟨k + 1, by omega, by go_num, ⟨hnx.out⟩⟩
     ·obtain rfl : gk = 0 := by omega
      obtain rfl : k = t.fs.length := by omega
      have hnx := Lib.hid (show HI w1 c b ((H ++ [⟨p.data.toList, v⟩]) ++ wkL p.data.toList [] true (v.take (i + 1))) wr from by
       rw [a4r _ _ _ ht, ← List.append_assoc]
       have := HF.out
       rw [List.take_of_length_le (Nat.le_refl _)] at this; exact this)
      go_wp2_with fail
      go_roundg m1
      case measure => omega
      case rel => exact ⟨i + 1, by omega, by go_num, ⟨hnx.out⟩⟩
   ·obtain rfl : gk = 0 := by omega
    obtain rfl : i = v.length := by omega
    have hnx := Lib.hid (show HI w1 c b (H ++ (⟨p.data.toList, v⟩ :: (if true = true then wkL p.data.toList [] true v else []))) wr from by
     have := HM.out
     rw [List.take_of_length_le (Nat.le_refl _)] at this
     rw [if_pos rfl, show ∀ X : List Hit, H ++ (⟨p.data.toList, v⟩ :: X) = (H ++ [⟨p.data.toList, v⟩]) ++ X from fun X => by simp]; exact this)
    go_wp2_with fail
    refine bodyPost_end (results_none rfl _ _ _) rfl ?_
    exact ⟨rfl, hnx.out⟩
theorem a9b (w1 : World) (c : Cls) (b : Nat) : ∀ n, n ≤ 1073741824 → avh w1 c b n := by
 intro n
 induction n using Nat.strongRecOn with
 | _ n ih =>
  intro hn v l deep p H W vv lv hs hnm hp hH hV hL hI
  cases l with
  | nil => exact a9a w1 c b n hn (fun m hm => ih m hm (by omega)) v deep p H W vv lv hs hnm hp hH hV hL hI
  | cons x r => exact a4s w1 c b n hn (fun m hm => ih m hm (by omega)) v x r deep p H W vv lv hs hnm hp hH hV hL hI
end Go.Proofs.YtmdimhcjogjcgaaGreatDoor.Qw
