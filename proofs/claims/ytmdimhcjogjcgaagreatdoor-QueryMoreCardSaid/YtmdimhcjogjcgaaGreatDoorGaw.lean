/- Regions in the order of the text. -/
import Derived.Test.YtmdimhcjogjcgaaGreatDoorGav
set_option linter.all false
noncomputable section
namespace Go.Proofs.YtmdimhcjogjcgaaGreatDoor.Abs
open Go.RowKit
def St (τ : Tab) (B : Nat) (wB : World) (cB : Cls) (sz : Nat) (e : Env) (a : Act) (w : World) : Prop :=
 ∃ c, Ext B wB cB w c ∧ ax τ B w c (aj a) e ∧ a.tmps.size = sz ∧ a.defers = []
section
variable {P : Program} {τ : Tab} {B : Nat} {call : Nat → List AV → Option AV} {all : List Oper} {W : Nat} {e0 : Env} {V : qu} {wB w0 : World} {cB c0 : Cls} {a0 : Act} {Dn : Nat → Prop} {a : Act} {w : World} {sz : Nat} {res : List Nat}
theorem St.ku {e e' : Env} (h : St τ B wB cB sz e a w) (hw : ∀ x, ff (e x) (e' x)) : St τ B wB cB sz e' a w := by
 obtain ⟨c, h1, h2, h3⟩ := h
 exact ⟨c, h1, h2.ku hw, h3⟩
theorem mi {o : Oper} {bad x : Nat} {l : List (Oper × Nat)} : x ∈ aq ((o, bad) :: l) ↔ dq o = some x ∨ x ∈ aq l := by
 simp only [kc, List.mem_cons, exists_eq_or_imp]
theorem me : ∀ {l : List (Oper × Nat)} {x : Nat}, ao (gj l) x = true ↔ x ∈ aq l
 | [], x => by simp [gj, ng, aq]
 | (o, bad) :: l, x => by rw [gj, la, Bool.or_eq_true, me (l := l), mi, jw]
theorem aee : ∀ {l : List (Oper × Nat)} {S : Nat}, nod S l = true → (aq l).Nodup ∧ ∀ x ∈ aq l, ao S x = false
 | [], _, _ => ⟨by simp [aq], fun x hx => by simp [aq] at hx⟩
 | (o, bad) :: l, S, h => by
  simp only [nod, Bool.and_eq_true] at h
  obtain ⟨h1, h2⟩ := h
  obtain ⟨k1, k2⟩ := aee h2
  have hS : ∀ x, dq o = some x → ao S x = false := fun x hx => by
   have h1 := Nat.eq_of_beq_eq_true h1
   have hb : ao (jk (dq o)) x = true := (jw _ _).2 hx
   rw [kr] at hb ⊢
   have := congrArg (fun n => Nat.testBit n x) h1
   simp only [Nat.testBit_and, hb, Bool.true_and, Nat.zero_testBit] at this
   exact this
  refine ⟨?_, fun x hx => ?_⟩
  ·cases hd : dq o with
   | none =>
    have : aq ((o, bad) :: l) = aq l := by simp [aq, hd]
    rw [this]; exact k1
   | some d =>
    have : aq ((o, bad) :: l) = d :: aq l := by simp [aq, hd]
    rw [this, List.nodup_cons]
    refine ⟨fun hm => ?_, k1⟩
    have := k2 d hm
    rw [la, Bool.or_eq_false_iff] at this
    have h3 := (jw (dq o) d).2 hd
    rw [h3] at this; cases this.2
  ·rcases mi.1 hx with hx | hx
   ·exact hS x hx
   ·have := k2 x hx
    rw [la, Bool.or_eq_false_iff] at this
    exact this.1
theorem alu {W S x : Nat} (hw : ao W x = true) (hb : ao (W ^^^ (W &&& S)) x = false) : ao S x = true := by
 rw [kr] at *
 rw [Nat.testBit_xor, Nat.testBit_and, hw] at hb
 simpa using hb
theorem rm {W : Nat} : ∀ {l : List (Oper × Nat)} {S : Nat}, aq (yd W S l) = aq l
 | [], _ => rfl
 | (o, b) :: l, S => by
  have ih := rm (W := W) (l := l) (S := S ||| jk (dq o))
  simp only [aq, yd, List.filterMap_cons] at ih ⊢
  rw [ih]
theorem alv (l m : List (Oper × Nat)) : fl (l ++ m) = fl l ++ fl m := by
 induction l with
 | nil => rfl
 | cons o l ih => simp [fl, ih]
theorem alw (l : List Oper) : fl (fa l) = l := by
 induction l with
 | nil => rfl
 | cons o l ih => simp [fa, fl, ih]
theorem ab7 (l : List (Oper × Nat)) : (fl l).length = l.length := by
 induction l with
 | nil => rfl
 | cons o l ih => simp [fl, ih]
theorem om.iff {Dn' : Nat → Prop} (h : om τ B W e0 V w0 c0 a0 Dn a w) (hd : ∀ x, Dn x ↔ Dn' x) : om τ B W e0 V w0 c0 a0 Dn' a w := by
 have : Dn = Dn' := funext fun x => propext (hd x)
 rw [← this]; exact h
theorem aoj (hT : db P τ) (hcall : ∀ f l r, call f l = some r → PC P τ f l r) {ops : Array Oper} {Q : Exit → Act → World → Prop} {rest : List Nat} (hall : all = ops.toList) (hsz : ∀ o ∈ all, ∀ d, o.dst = some d → d < a0.tmps.size) :
  ∀ (l : List (Oper × Nat)) (S i : Nat) (a : Act) (w : World), (∀ j, j < l.length → all[i + j]? = (fl l)[j]?) → (∀ y ∈ yd W S l, Loc τ call all W e0 V y.1 y.2) → (∀ x ∈ aq l, ao W x = true) → (aq l).Nodup → (∀ x ∈ aq l, ao S x = false) →
   om τ B W e0 V w0 c0 a0 (fun x => ao S x = true) a w → (∀ a' w', om τ B W e0 V w0 c0 a0 (fun x => ao S x = true ∨ x ∈ aq l) a' w' → wpOps P ops Q rest a' w') → wpOps P ops Q (List.range' i l.length ++ rest) a w
 | [], S, i, a, w, _, _, _, _, _, h, hK => hK a w (h.iff fun x => by simp [aq])
 | (o, bad) :: l, S, i, a, w, hops, hloc, hW, hnd, hS, h, hK => by
  rw [List.length_cons, List.range'_succ, List.cons_append, wpOps_cons]
  have hoi : all[i]? = some o := by simpa [fl] using hops 0 (by simp)
  have hoi' : ops[i]? = some o := by rw [hall] at hoi; simpa using hoi
  refine als hT hcall hall hoi' h (hloc (o, W ^^^ (W &&& S)) (by simp [yd])) (fun x hw hb => alu hw hb) (fun d hd => ⟨hW d (mi.2 (.inl hd)), by rw [hS d (mi.2 (.inl hd))]; simp, fun hst => hsz o (List.mem_of_getElem? hoi) d (by rw [← wu hst]; exact hd)⟩) fun a' w' h' => ?_
  have hnd' : (aq l).Nodup ∧ ∀ x, dq o = some x → x ∉ aq l := by
   cases hd : dq o with
   | none =>
    have : aq ((o, bad) :: l) = aq l := by simp [aq, hd]
    rw [this] at hnd; exact ⟨hnd, fun x hx => by cases hx⟩
   | some d =>
    have : aq ((o, bad) :: l) = d :: aq l := by simp [aq, hd]
    rw [this, List.nodup_cons] at hnd; exact ⟨hnd.2, fun x hx => by cases hx; exact hnd.1⟩
  refine aoj hT hcall hall hsz l (S ||| jk (dq o)) (i + 1) a' w' (fun j hj => ?_) (fun y hy => hloc y (by simp [yd, hy])) (fun x hx => hW x (mi.2 (.inr hx))) hnd'.1 (fun x hx => ?_) (h'.iff fun x => by rw [la, Bool.or_eq_true, jw]) fun a2 w2 h2 => hK a2 w2 (h2.iff fun x => by
   rw [la, Bool.or_eq_true, jw, mi, or_assoc])
  ·have := hops (j + 1) (by simp; omega)
   rw [show i + 1 + j = i + (j + 1) by omega, this]; simp [fl]
  ·rw [la, hS x (mi.2 (.inr hx))]
   cases hb : ao (jk (dq o)) x with
   | false => rfl
   | true => exact absurd hx (hnd'.2 x ((jw _ _).1 hb))
theorem apz (m : Nat) (v : AV) : ff v (klB m v) := by
 cases v <;> first
  | exact .refl _
  | skip
 case fptr q o => show ff _ (aa _ _ _); cases ao m q <;> first | exact .refl _ | exact .undef _
 case vw q z l => show ff _ (aa _ _ _); cases ao m q <;> first | exact .refl _ | exact .vw ..
 case vwc q o z l => show ff _ (aa _ _ _); cases ao m q <;> first | exact .refl _ | exact .vwc ..
theorem av3 {m q : Nat} {v : AV} (h : qd (klB m v) q) : ao m q = false := by
 cases v <;> first
  | exact (h : False).elim
  | skip
 case fptr p o =>
  have h : qd (aa (ao m p) .undef (.fptr p o)) q := h
  cases hb : ao m p <;> rw [hb] at h
  ·obtain rfl : p = q := h; exact hb
  ·exact (h : False).elim
 case vw p z l =>
  have h : qd (aa (ao m p) (.sl z l) (.vw p z l)) q := h
  cases hb : ao m p <;> rw [hb] at h
  ·obtain rfl : p = q := h; exact hb
  ·exact (h : False).elim
 case vwc p o z l =>
  have h : qd (aa (ao m p) (.sl z l) (.vwc p o z l)) q := h
  cases hb : ao m p <;> rw [hb] at h
  ·obtain rfl : p = q := h; exact hb
  ·exact (h : False).elim
theorem ap0 (m : Nat) (e : Env) (x : Nat) : ff (e x) (mn m (qi m e) x) := by
 unfold mn
 cases ao m x with
 | true =>
  show ff (e x) (agb (klB m (e x)))
  generalize e x = v
  cases v <;> first
   | exact .undef _
   | exact .refl _
   | (unfold klB; simp only []; cases ao m _ <;> exact .undef _)
 | false => exact apz _ _
theorem ap1 {v : AV} {q : Nat} (h : qd (agb v) q) : False := by cases v <;> exact h
theorem om.start {c : Cls} {e : Env} (hs : ax τ B w c (aj a) e) (W : Nat) (V : qu) : om τ B W (mn W (qi W e)) V w c a (fun _ => False) a w := by
 refine ⟨⟨c, Ext.refl .., hs.ku fun x => ?_⟩, fun x _ hd => hd.elim, fun x q hr hq => ?_, rfl, rfl⟩
 ·rw [aed (fun h => h)]; exact ap0 W e x
 ·rw [aed (fun h => h)] at hr
  unfold mn at hr
  cases hb : ao W x <;> rw [hb] at hr
  ·have := av3 (show qd (klB W (e x)) q from hr)
   rw [this] at hq; cases hq.1
  ·exact ap1 hr
theorem om.done {e1 : Env} (h : om τ B W e0 V w0 c0 a0 Dn a w) (hD : ∀ x, ao W x = true → Dn x) (h1 : ∀ x, ao W x = true → e1 x = .undef ∨ V x = some (e1 x)) (h2 : ∀ x, ao W x = false → e1 x = e0 x) :
  ∃ c, Ext B w0 c0 w c ∧ ax τ B w c (aj a) e1 ∧ a.tmps.size = a0.tmps.size ∧ a.defers = a0.defers := by
 obtain ⟨c, he, hs⟩ := h.rel
 refine ⟨c, he, hs.ku fun x => ?_, h.size, h.defers⟩
 cases hw : ao W x with
 | true =>
  rw [zt hw (hD x hw)]
  rcases h1 x hw with hh | hh
  ·rw [hh]; exact .undef _
  ·rw [hh]; exact .refl _
 | false => rw [ass hw, h2 x hw]; exact .refl _
theorem alx {l r : List Oper} {o : Oper} {i : Nat} (h : all.drop i = o :: r) : all[i]? = some o ∧ all.drop (i + 1) = r := by
 have h1 : i < all.length := by
  rcases Nat.lt_or_ge i all.length with hh | hh
  ·exact hh
  ·rw [List.drop_eq_nil_of_le hh] at h; cases h
 rw [List.drop_eq_getElem_cons h1] at h
 cases h
 exact ⟨List.getElem?_eq_getElem h1, rfl⟩
theorem ahe (hT : db P τ) (hcall : ∀ f l r, call f l = some r → PC P τ f l r) {ops : Array Oper} {Q : Exit → Act → World → Prop} (hall : all = ops.toList) (hsz : ∀ o ∈ all, ∀ d, o.dst = some d → d < sz) {α : Type} {k : Env → Option α} {r : α} :
  ∀ (n : Nat) (l : List Oper) (e : Env) (i : Nat) (a : Act) (w : World), all.drop i = l → kl τ call res all n l e k = some r → St τ B wB cB sz e a w → (∀ e' a' w', k e' = some r → St τ B wB cB sz e' a' w' → Q .normal a' w') →
   wpOps P ops Q (List.range' i l.length) a w
 | 0, _, _, _, _, _, _, h, _, _ => by cases h
 | n + 1, [], e, i, a, w, _, h, hst, hQ => hQ e a w h hst
 | n + 1, o :: l, e, i, a, w, hdr, h, hst, hQ => by
  obtain ⟨hoi, hdr'⟩ := alx (l := l) hdr
  have hoi' : ops[i]? = some o := by rw [hall] at hoi; simpa using hoi
  obtain ⟨c, hx, hs, hsize, hdef⟩ := hst
  unfold kl at h
  split at h
  ·rename_i hg
   obtain ⟨e1, h1, h2⟩ := aip h
   rw [List.length_cons, List.range'_succ, wpOps_cons]
   unfold wpOp
   rw [hoi']
   have hw : Region.wanted o (yielded ops a.tmps) = true := by simp [Region.wanted, hg]
   simp only [hw, if_true]
   refine .inl (alp hT hcall hs (fun d hd => by rw [hsize]; exact hsz o (List.mem_of_getElem? hoi) d hd) h1 _ Q fun a' w' ha => ?_)
   obtain ⟨c', q1, q2, q3, q4⟩ := ha
   exact ahe hT hcall hall hsz n l e1 (i + 1) a' w' hdr' h2 ⟨c', hx.trans q1, q2, q3.trans hsize, q4.trans hdef⟩ hQ
  ·rename_i j b hg
   split at h
   ·cases h
   ·rename_i d hj
    split at h
    ·cases h
    ·rename_i grp p rest hup
     obtain ⟨hnod, h⟩ := bn h
     obtain ⟨hl0, _⟩ := ab6 hup
     have hl0 : fa (o :: l) = grp ++ p :: rest := hl0
     generalize hgp : grp ++ [p] = G at *
     have hl1 : fa (o :: l) = G ++ rest := by rw [hl0, ← hgp]; simp
     have hpl : o :: l = fl G ++ fl rest := by rw [← alv, ← hl1, alw]
     obtain ⟨hnd, _⟩ := aee hnod
     have hWG : ∀ x ∈ aq G, ao (gj G) x = true := fun x hx => me.2 hx
     obtain ⟨V, e1, k1, k2, k3, k4, k5⟩ := qc τ call all (gj G) (mn (gj G) (qi (gj G) e)) (n + 1) none (yd (gj G) 0 G) _ _ r (fun _ => none) (fun _ => False) h
      (fun j b hc => by cases hc) (by rw [rm]; exact hnd) (fun x hx => by rw [rm] at hx; exact hWG x hx) (fun x hx => hx.elim) (fun x hx => hx.elim)
      (fun x hx => by rw [rm] at hx; simp [gf, hWG x hx, aa]) (fun x => ⟨fun hw => .inl (by simp [gf, hw, aa]), fun hw => by simp [gf, mn, hw, aa]⟩)
     have hlen : (o :: l).length = G.length + (fl rest).length := by rw [hpl, List.length_append, ab7]
     rw [hlen, ← List.range'_append_1]
     have hdrop : all.drop (i + G.length) = fl rest := by
      rw [← List.drop_drop, hdr, hpl, List.drop_left' (ab7 G)]
     refine aoj (W := gj G) (e0 := mn (gj G) (qi (gj G) e)) (V := V) (w0 := w) (c0 := c) (a0 := a) hT hcall hall (fun o ho d hd => by rw [hsize]; exact hsz o ho d hd) G 0 i a w (fun j hj => ?_) (k5 V fun _ _ => rfl) hWG hnd (fun x _ => ng x)
      ((om.start hs _ V).iff fun x => by simp [ng]) fun a' w' hinv => ?_
     ·have : (all.drop i)[j]? = (fl G)[j]? := by rw [hdr, hpl, List.getElem?_append_left (by rw [ab7]; exact hj)]
      rw [← this, List.getElem?_drop]
     ·obtain ⟨c', q1, q2, q3, q4⟩ := hinv.done (e1 := e1) (fun x hw => .inr (me.1 hw)) (fun x hw => k4 x (by rw [rm]; exact me.1 hw)) (fun x hw => (k3 x fun hm => by rw [rm] at hm; rw [hWG x hm] at hw; cases hw).trans (by simp [gf, mn, hw, aa]))
      exact ahe hT hcall hall hsz n (fl rest) e1 (i + G.length) a' w' hdrop k1 ⟨c', hx.trans q1, q2, q3.trans hsize, q4.trans hdef⟩ hQ
end
end Go.Proofs.YtmdimhcjogjcgaaGreatDoor.Abs
namespace Go.Proofs.YtmdimhcjogjcgaaGreatDoor.Abs
open Go.RowKit
def Lst (listed : Array Bool) (j : Nat) : Prop := listed.getD j false = true
def Rdy (all : List Oper) (L : Nat → Prop) (i : Nat) : Prop := ∃ o, all[i]? = some o ∧ ∀ e ∈ o.after.toList, Region.binds .any e = true → L e.on
def afr (all : List Oper) (L : Nat → Prop) : Prop := ∀ i, L i → Rdy all L i
def xw (all : List Oper) (i : Nat) (bs : Nat × Nat) : Prop := ∀ L, afr all L → Rdy all L i → (∀ x, ao bs.2 x = true → ∃ j, L j ∧ j < i ∧ xb all j = some x) ∧ ∀ j, ao bs.1 j = true → L j
theorem asu (i x : Nat) : ao (bit i) x = true ↔ i = x := by
 have := jw (some i) x
 simpa [jk] using this
theorem afs {all : List Oper} {n : Nat} {acc : List (Nat × Nat)} (hlen : acc.length = n) (hacc : ∀ j, j < n → ∀ bs, acc[n - 1 - j]? = some bs → xw all j bs) :
  ∀ {es : List Edge}, (∀ e ∈ es, Region.binds .any e = true → e.on < n) → ∀ L, afr all L → (∀ e ∈ es, Region.binds .any e = true → L e.on) →
   (∀ x, ao (nw all n acc es).2 x = true → ∃ j, L j ∧ j < n ∧ xb all j = some x) ∧ ∀ j, ao (nw all n acc es).1 j = true → L j
 | [], _, L, _, _ => ⟨fun x hx => by simp [nw, ng] at hx, fun j hj => by simp [nw, ng] at hj⟩
 | e :: es, hon, L, hc, hL => by
  have ih := afs hlen hacc (es := es) (fun e he => hon e (by simp [he])) L hc (fun e he => hL e (by simp [he]))
  unfold nw
  cases hb : Region.binds .any e with
  | false => simpa using ih
  | true =>
   have h1 := hon e (by simp) hb
   have h2 := hL e (by simp) hb
   generalize hw : nw all n acc es = bs at *
   obtain ⟨b, s⟩ := bs
   have hlt : n - 1 - e.on < acc.length := by omega
   rw [List.getElem?_eq_getElem hlt]
   have hok := hacc e.on h1 _ (List.getElem?_eq_getElem hlt) L hc (hc _ h2)
   generalize acc[n - 1 - e.on] = bs' at hok
   obtain ⟨b', s'⟩ := bs'
   refine ⟨fun x hx => ?_, fun j hj => ?_⟩
   ·simp only [la, Bool.or_eq_true] at hx
    rcases hx with (hx | hx) | hx
    ·exact ih.1 x hx
    ·exact ⟨e.on, h2, h1, (jw _ _).1 hx⟩
    ·obtain ⟨j, q1, q2, q3⟩ := hok.1 x hx
     exact ⟨j, q1, by omega, q3⟩
   ·simp only [la, Bool.or_eq_true] at hj
    rcases hj with (hj | hj) | hj
    ·exact ih.2 j hj
    ·rw [← (asu _ _).1 hj]; exact h2
    ·exact hok.2 j hj
theorem xx {n : Nat} {es : List Edge} (h : acu n es = true) : ∀ e ∈ es, Region.binds .any e = true → e.on < n := fun e he hb => by
 simp only [acu, List.all_eq_true] at h
 have := h e he
 rw [hb] at this
 simpa using this
theorem qn : ∀ {l : List Oper} {n : Nat}, mo n l = true → ∀ j o, l[j]? = some o → acu (n + j) o.after.toList = true
 | [], _, _, j, o, h => by simp at h
 | o' :: l, n, h, j, o, ho => by
  simp only [mo, Bool.and_eq_true] at h
  cases j with
  | zero => simp only [List.getElem?_cons_zero, Option.some.injEq] at ho; subst ho; exact h.1
  | succ j =>
   simp only [List.getElem?_cons_succ] at ho
   have := qn h.2 j o ho
   rw [show n + (j + 1) = n + 1 + j by omega]; exact this
theorem aly {all : List Oper} (hall : mo 0 all = true) : ∀ (l : List Oper) (n : Nat) (acc : List (Nat × Nat)), all.drop n = l → acc.length = n → (∀ j, j < n → ∀ bs, acc[n - 1 - j]? = some bs → xw all j bs) →
  (waits all n acc l).length = n + l.length ∧ ∀ i bs, (waits all n acc l)[i]? = some bs → xw all i bs
 | [], n, acc, _, hlen, hacc => by
  refine ⟨by simp [waits, hlen], fun i bs hi => ?_⟩
  simp only [waits] at hi
  have hi' := (List.getElem?_eq_some_iff.1 hi).1
  simp only [List.length_reverse] at hi'
  rw [List.getElem?_reverse hi', hlen] at hi
  exact hacc i (by omega) bs hi
 | o :: l, n, acc, hdr, hlen, hacc => by
  obtain ⟨h1, h2⟩ := alx (l := []) hdr
  have hes := xx (by have := qn hall n o h1; simpa using this)
  have hnew : xw all n (nw all n acc o.after.toList) := fun L hc hr => by
   obtain ⟨o', q1, q2⟩ := hr
   rw [h1] at q1; cases q1
   exact afs hlen hacc hes L hc q2
  have := aly hall l (n + 1) (nw all n acc o.after.toList :: acc) h2 (by simp [hlen]) (fun j hj bs hbs => by
   by_cases hjn : j = n
   ·subst hjn
    simp at hbs; subst hbs; exact hnew
   ·rw [show n + 1 - 1 - j = (n - 1 - j) + 1 by omega, List.getElem?_cons_succ] at hbs
    exact hacc j (by omega) bs hbs)
  refine ⟨?_, this.2⟩
  show (waits all (n + 1) _ l).length = _
  rw [this.1]; simp; omega
theorem aft : ∀ (n : Nat) (ws : List (Nat × Nat)) (os : List Oper), ws.length = n → os.length = n → vq n ws.reverse os.reverse ≤ n ∧
  ∀ i, vq n ws.reverse os.reverse ≤ i → i < n → ∃ s o, ws[i]? = some (2 ^ i - 1, s) ∧ os[i]? = some o ∧ o.guard = none
 | 0, ws, os, h1, h2 => by
  refine ⟨?_, fun i _ h => by omega⟩
  obtain rfl := List.eq_nil_of_length_eq_zero h1
  simp [vq]
 | n + 1, ws, os, h1, h2 => by
  obtain ⟨ws', x, rfl⟩ : ∃ ws' x, ws = ws' ++ [x] := ⟨ws.dropLast, ws.getLast (by intro h; rw [h] at h1; cases h1), (List.dropLast_concat_getLast _).symm⟩
  obtain ⟨os', o, rfl⟩ : ∃ os' o, os = os' ++ [o] := ⟨os.dropLast, os.getLast (by intro h; rw [h] at h2; cases h2), (List.dropLast_concat_getLast _).symm⟩
  obtain ⟨b, s⟩ := x
  have h1' : ws'.length = n := by simpa using h1
  have h2' : os'.length = n := by simpa using h2
  obtain ⟨k1, k2⟩ := aft n ws' os' h1' h2'
  have he : vq (n + 1) (ws' ++ [(b, s)]).reverse (os' ++ [o]).reverse = aa (Nat.beq b (2 ^ n - 1) && (o.guard.isNone && !agd o)) (vq n ws'.reverse os'.reverse) (n + 1) := by
   simp [vq]
  rw [he]
  cases hc : (Nat.beq b (2 ^ n - 1) && (o.guard.isNone && !agd o)) with
  | false => exact ⟨Nat.le_refl _, fun i hi hi' => by have : n + 1 ≤ i := hi; omega⟩
  | true =>
   simp only [Bool.and_eq_true] at hc
   refine ⟨Nat.le_succ_of_le k1, fun i hi hi' => ?_⟩
   by_cases hin : i = n
   ·subst hin
    refine ⟨s, o, ?_, ?_, by simpa using hc.2.1⟩
    ·rw [List.getElem?_append_right (by omega), h1', Nat.sub_self, ← Nat.eq_of_beq_eq_true hc.1]; rfl
    ·rw [List.getElem?_append_right (by omega), h2', Nat.sub_self]; rfl
   ·obtain ⟨s', o', q1, q2, q3⟩ := k2 i hi (by omega)
    exact ⟨s', o', by rw [List.getElem?_append_left (by omega)]; exact q1, by rw [List.getElem?_append_left (by omega)]; exact q2, q3⟩
theorem aiq {W : Nat} : ∀ (m : Nat) (ws : List (Nat × Nat)) (os : List Oper), m ≤ ws.length → m ≤ os.length → ∀ i o b s, i < m → os[i]? = some o → ws[i]? = some (b, s) → (o, W ^^^ (W &&& s)) ∈ xd W m ws os
 | 0, _, _, _, _, i, _, _, _, hi, _, _ => by omega
 | m + 1, [], _, h, _, _, _, _, _, _, _, _ => by simp at h
 | m + 1, _ :: _, [], _, h, _, _, _, _, _, _, _ => by simp at h
 | m + 1, (b', s') :: ws, o' :: os, h1, h2, i, o, b, s, hi, ho, hw => by
  cases i with
  | zero =>
   simp only [List.getElem?_cons_zero, Option.some.injEq, Prod.mk.injEq] at ho hw
   obtain ⟨rfl, rfl⟩ := hw
   subst ho
   simp [xd]
  | succ i =>
   simp only [List.getElem?_cons_succ] at ho hw
   have := aiq (W := W) m ws os (by simpa using h1) (by simpa using h2) i o b s (by omega) ho hw
   simp [xd, this]
theorem alz {W : Nat} : ∀ (m : Nat) (ws : List (Nat × Nat)) (os : List Oper), m ≤ ws.length → m ≤ os.length → aq (xd W m ws os) = aq (fa (os.take m))
 | 0, _, _, _, _ => by simp [xd, fa, aq]
 | m + 1, [], _, h, _ => by simp at h
 | m + 1, _ :: _, [], _, h => by simp at h
 | m + 1, (b', s') :: ws, o' :: os, h1, h2 => by
  have ih := alz (W := W) m ws os (by simpa using h1) (by simpa using h2)
  simp only [aq, xd, fa, List.take_succ_cons, List.filterMap_cons] at ih ⊢
  rw [ih]
theorem aa1 {l : List Oper} {x : Nat} : x ∈ aq (fa l) ↔ ∃ (j : Nat) (o : Oper), l[j]? = some o ∧ dq o = some x := by
 induction l with
 | nil => simp [fa, aq]
 | cons o l ih =>
  rw [fa, mi, ih]
  constructor
  ·rintro (h | ⟨j, o', h1, h2⟩)
   ·exact ⟨0, o, rfl, h⟩
   ·exact ⟨j + 1, o', h1, h2⟩
  ·rintro ⟨j, o', h1, h2⟩
   cases j with
   | zero => simp at h1; subst h1; exact .inl h2
   | succ j => exact .inr ⟨j, o', by simpa using h1, h2⟩
theorem al0 : ∀ {l : List Oper}, (aq (fa l)).Nodup → ∀ (i j : Nat) (oi oj : Oper) (x : Nat), l[i]? = some oi → l[j]? = some oj → dq oi = some x → dq oj = some x → i = j
 | [], _, i, j, _, _, _, h, _, _, _ => by simp at h
 | o :: l, hnd, i, j, oi, oj, x, hi, hj, hxi, hxj => by
  have hnd' : (aq (fa l)).Nodup ∧ ∀ x, dq o = some x → x ∉ aq (fa l) := by
   cases hd : dq o with
   | none =>
    have : aq (fa (o :: l)) = aq (fa l) := by simp [aq, fa, hd]
    rw [this] at hnd; exact ⟨hnd, fun x hx => by cases hx⟩
   | some d =>
    have : aq (fa (o :: l)) = d :: aq (fa l) := by simp [aq, fa, hd]
    rw [this, List.nodup_cons] at hnd; exact ⟨hnd.2, fun x hx => by cases hx; exact hnd.1⟩
  cases i with
  | zero =>
   simp at hi; subst hi
   cases j with
   | zero => rfl
   | succ j => exact absurd (aa1.2 ⟨j, oj, by simpa using hj, hxj⟩) (hnd'.2 x hxi)
  | succ i =>
   cases j with
   | zero => simp at hj; subst hj; exact absurd (aa1.2 ⟨i, oi, by simpa using hi, hxi⟩) (hnd'.2 x hxj)
   | succ j => rw [al0 hnd'.1 i j oi oj x (by simpa using hi) (by simpa using hj) hxi hxj]
section
variable {P : Program} {τ : Tab} {B : Nat} {call : Nat → List AV → Option AV} {all : List Oper} {W : Nat} {e0 : Env} {V : qu} {wB w0 : World} {cB c0 : Cls} {a0 : Act} {Dn : Nat → Prop} {a : Act} {w : World} {sz : Nat} {res : List Nat}
 {ops : Array Oper} {Q : Exit → Act → World → Prop}
theorem yv {listed : Array Bool} {i : Nat} (hall : all = ops.toList) (hs : listed.size = ops.size) : i ∈ Region.ready .any ops listed ↔ (i < all.length ∧ ¬ Lst listed i ∧ Rdy all (Lst listed) i) := by
 have hlen : all.length = ops.size := by rw [hall]; simp
 unfold Region.ready
 rw [List.mem_filter, List.mem_range, hlen]
 constructor
 ·rintro ⟨h1, h2⟩
  rw [Bool.and_eq_true] at h2
  obtain ⟨h2, h3⟩ := h2
  have hi : ops[i]? = some ops[i] := by simp [h1]
  refine ⟨h1, ?_, ops[i], by rw [hall]; simp, fun e he hb => ?_⟩
  ·unfold Lst
   rw [Array.getD_eq_getD_getElem?] at h2 ⊢
   have : listed[i]? = some listed[i] := by simp [hs, h1]
   rw [this] at h2 ⊢
   simpa using h2
  ·rw [hi] at h3
   simp only [Option.map_some, Option.getD_some, Array.all_eq_true_iff_forall_mem] at h3
   have := h3 e (by simpa using he)
   rw [hb] at this
   simpa [Lst] using this
 ·rintro ⟨h1, h2, o, h3, h4⟩
  refine ⟨h1, ?_⟩
  have hi : ops[i]? = some o := by rw [hall] at h3; simpa using h3
  rw [Bool.and_eq_true]
  constructor
  ·unfold Lst at h2
   rw [Array.getD_eq_getD_getElem?] at h2 ⊢
   have : listed[i]? = some listed[i] := by simp [hs, h1]
   rw [this] at h2 ⊢
   simpa using h2
  ·rw [hi]
   simp only [Option.map_some, Option.getD_some, Array.all_eq_true_iff_forall_mem]
   intro e he
   cases hb : Region.binds .any e with
   | false => rfl
   | true => simpa [Lst] using h4 e (by simpa using he) hb
theorem pq {listed : Array Bool} {i j : Nat} (hi : i < listed.size) : Lst (listed.setIfInBounds i true) j ↔ (Lst listed j ∨ j = i) := by
 unfold Lst
 rw [Array.getD_eq_getD_getElem?, Array.getD_eq_getD_getElem?]
 by_cases h : j = i
 ·subst h; simp [hi]
 ·rw [Array.getElem?_setIfInBounds_ne (Ne.symm h)]; simp [h]
def left (n : Nat) (listed : Array Bool) : Nat := ((List.range n).filter fun j => !listed.getD j false).length
theorem filter_lt {β : Type} {p p' : β → Bool} : ∀ {l : List β}, (∀ x ∈ l, p' x = true → p x = true) → (∃ x ∈ l, p x = true ∧ p' x = false) → (l.filter p').length < (l.filter p).length
 | [], _, ⟨x, hx, _⟩ => by cases hx
 | y :: l, h, ⟨x, hx, h1, h2⟩ => by
  have hle : ∀ (l : List β), (∀ x ∈ l, p' x = true → p x = true) → (l.filter p').length ≤ (l.filter p).length := by
   intro l
   induction l with
   | nil => intro _; exact Nat.le_refl _
   | cons z l ih =>
    intro hz
    have := ih fun x hx => hz x (by simp [hx])
    simp only [List.filter_cons]
    cases hp' : p' z with
    | true => rw [hz z (by simp) hp']; simpa using this
    | false =>
     cases p z
     ·simpa using this
     ·simp; omega
  have hl := hle l fun x hx => h x (by simp [hx])
  rcases List.mem_cons.1 hx with rfl | hx
  ·simp only [List.filter_cons, h1, h2]; simp; omega
  ·have ih := filter_lt (l := l) (fun x hx => h x (by simp [hx])) ⟨x, hx, h1, h2⟩
   simp only [List.filter_cons]
   cases hp' : p' y with
   | true => rw [h y (by simp) hp']; simpa using ih
   | false =>
    cases p y
    ·simpa using ih
    ·simp; omega
theorem al1 {n i : Nat} {listed : Array Bool} (hn : listed.size = n) (hi : i < n) (hl : ¬ Lst listed i) : left n (listed.setIfInBounds i true) < left n listed := by
 unfold left
 refine filter_lt (fun x _ h => ?_) ⟨i, by simpa using hi, by simpa [Lst] using hl, ?_⟩
 ·cases hx : listed.getD x false with
  | false => rfl
  | true =>
   have : Lst (listed.setIfInBounds i true) x := (pq (by omega)).2 (.inl hx)
   unfold Lst at this
   rw [this] at h; cases h
 ·have : Lst (listed.setIfInBounds i true) i := (pq (by omega)).2 (.inr rfl)
  unfold Lst at this
  rw [this]; rfl
theorem air {n : Nat} {listed : Array Bool} (h : left n listed = 0) : ∀ j, j < n → Lst listed j := fun j hj => by
 have h1 := List.eq_nil_of_length_eq_zero h
 have : j ∉ (List.range n).filter fun j => !listed.getD j false := by rw [h1]; simp
 simp only [List.mem_filter, List.mem_range, hj, true_and] at this
 unfold Lst
 simpa using this
theorem afu {listed : Array Bool} (hall : all = ops.toList) (hs : listed.size = ops.size) (he : mo 0 all = true) (h : Region.ready .any ops listed = []) : ∀ j, j < all.length → Lst listed j := by
 intro j
 induction j using Nat.strongRecOn with
 | ind j ih =>
  intro hj
  by_cases hl : Lst listed j
  ·exact hl
  ·have ho : all[j]? = some all[j] := List.getElem?_eq_getElem hj
   have hes := xx (by have := qn he j _ ho; simpa using this)
   have : j ∈ Region.ready .any ops listed := (yv hall hs).2 ⟨hj, hl, _, ho, fun e hm hb => ih e.on (hes e hm hb) (by have := hes e hm hb; omega)⟩
   rw [h] at this; cases this
theorem axc (hT : db P τ) (hcall : ∀ f l r, call f l = some r → PC P τ f l r) (hall : all = ops.toList) (hsz : ∀ o ∈ all, ∀ d, o.dst = some d → d < sz) (hed : mo 0 all = true) {α : Type} {k : Env → Option α} {r : α} {m : Nat}
    (htail : ∀ i, m ≤ i → i < all.length → ∃ s o, xw all i (2 ^ i - 1, s) ∧ all[i]? = some o ∧ o.guard = none) (hQ : ∀ e' a' w', k e' = some r → St τ B wB cB sz e' a' w' → Q .normal a' w') :
    ∀ (fuel : Nat) (listed : Array Bool) (e : Env) (i nn : Nat) (a : Act) (w : World), left all.length listed ≤ fuel → listed.size = ops.size → m ≤ i → i ≤ all.length → (∀ j, Lst listed j ↔ j < i) → kl τ call res all nn (all.drop i) e k = some r → St τ B wB cB sz e a w →
      wpAny P .any ops Q fuel listed a w := by
  have hend : ∀ (i nn : Nat) (e : Env) (a : Act) (w : World), ¬ i < all.length → kl τ call res all nn (all.drop i) e k = some r → St τ B wB cB sz e a w → Q .normal a w := fun i nn e a w hi h hst => by
    rw [List.drop_eq_nil_of_le (by omega)] at h
    cases nn with
    | zero => cases h
    | succ nn => exact hQ e a w h hst
  have hclosed : ∀ (listed : Array Bool) (i : Nat), i ≤ all.length → (∀ j, Lst listed j ↔ j < i) → ∀ j, j ≤ i → j < all.length → Rdy all (Lst listed) j := fun listed i hi hl j hj hjn => by
    have ho : all[j]? = some all[j] := List.getElem?_eq_getElem hjn
    have hes := xx (by have := qn hed j _ ho; simpa using this)
    exact ⟨_, ho, fun e hm hb => (hl _).2 (by have := hes e hm hb; omega)⟩
  intro fuel
  induction fuel with
  | zero =>
    intro listed e i nn a w hf hs hmi hin hl h hst
    have hz := air (Nat.le_zero.1 hf)
    have hni : ¬ i < all.length := fun hi => by have := (hl i).1 (hz i hi); omega
    refine ⟨?_, hend i nn e a w hni h hst⟩
    refine List.eq_nil_iff_forall_not_mem.2 fun j hj => ?_
    obtain ⟨h1, h2, _⟩ := (yv hall hs).1 hj
    exact h2 (hz j h1)
  | succ fuel ih =>
    intro listed e i nn a w hf hs hmi hin hl h hst
    refine ⟨fun hr => ?_, fun j hj => ?_⟩
    · have hz := afu hall hs hed hr
      exact hend i nn e a w (fun hi => by have := (hl i).1 (hz i hi); omega) h hst
    · obtain ⟨h1, h2, h3⟩ := (yv hall hs).1 hj
      have hji : i ≤ j := Nat.le_of_not_lt fun hh => h2 ((hl j).2 hh)
      obtain ⟨s, o, q1, q2, q3⟩ := htail j (by omega) h1
      have hcl : afr all (Lst listed) := fun j' hj' => hclosed listed i hin hl j' (by have := (hl j').1 hj'; omega) (by have := (hl j').1 hj'; omega)
      obtain rfl : j = i := by
        rcases Nat.lt_or_ge i j with hlt | hge
        · have := (q1 _ hcl h3).2 i (by rw [kr, Nat.testBit_two_pow_sub_one]; simpa using hlt)
          have := (hl i).1 this; omega
        · omega
      have hdr : all.drop j = o :: all.drop (j + 1) := by
        rw [List.drop_eq_getElem_cons h1]
        rw [List.getElem?_eq_getElem h1] at q2
        cases q2; rfl
      rw [hdr] at h
      have ho : ops[j]? = some o := by rw [hall] at q2; simpa using q2
      cases nn with
      | zero => cases h
      | succ nn =>
      unfold kl at h
      rw [q3] at h
      obtain ⟨e1, h4, h5⟩ := aip h
      obtain ⟨c, hx, hsr, hsize, hdef⟩ := hst
      unfold wpOp
      rw [ho]
      have hw : Region.wanted o (yielded ops a.tmps) = true := by simp [Region.wanted, q3]
      simp only [hw, if_true]
      refine .inl (alp hT hcall hsr (fun d hd => by rw [hsize]; exact hsz o (List.mem_of_getElem? q2) d hd) h4 _ Q fun a' w' ha => ?_)
      obtain ⟨c', p1, p2, p3, p4⟩ := ha
      have hjs : j < listed.size := by rw [hs]; have : all.length = ops.size := by rw [hall]; simp
                                       omega
      have hlf := al1 (n := all.length) (by rw [hs, hall]; simp) h1 h2
      exact ih (listed.setIfInBounds j true) e1 (j + 1) nn a' w' (by omega) (by simpa using hs) (by omega) h1 (fun x => by rw [pq hjs, hl x]; omega) h5 ⟨c', hx.trans p1, p2, p3.trans hsize, p4.trans hdef⟩
end
end Go.Proofs.YtmdimhcjogjcgaaGreatDoor.Abs
namespace Go.Proofs.YtmdimhcjogjcgaaGreatDoor.Abs
open Go.RowKit
section
variable {P : Program} {τ : Tab} {B : Nat} {call : Nat → List AV → Option AV} {all : List Oper} {W : Nat} {e0 : Env} {V : qu} {wB w0 : World} {cB c0 : Cls} {a0 : Act} {Dn : Nat → Prop} {a : Act} {w : World} {sz : Nat} {res : List Nat}
 {ops : Array Oper} {Q : Exit → Act → World → Prop}
theorem a6a (hT : db P τ) (hcall : ∀ f l r, call f l = some r → PC P τ f l r) (hall : all = ops.toList) (hsz : ∀ o ∈ all, ∀ d, o.dst = some d → d < sz) (hed : mo 0 all = true) {α : Type} {k : Env → Option α} {r : α} {m : Nat} (hm : m ≤ all.length)
  (htail : ∀ i, m ≤ i → i < all.length → ∃ s o, xw all i (2 ^ i - 1, s) ∧ all[i]? = some o ∧ o.guard = none) (hQ : ∀ e' a' w', k e' = some r → St τ B wB cB sz e' a' w' → Q .normal a' w')
  (hsa : a0.tmps.size = sz) (hW : ∀ x, ao W x = true ↔ ∃ (j : Nat) (o : Oper), j < m ∧ all[j]? = some o ∧ dq o = some x) (huq : ∀ (i j : Nat) (oi oj : Oper) (x : Nat), i < m → j < m → all[i]? = some oi → all[j]? = some oj → dq oi = some x → dq oj = some x → i = j)
  (hloc : ∀ i, i < m → ∃ b s o, all[i]? = some o ∧ xw all i (b, s) ∧ Loc τ call all W e0 V o (W ^^^ (W &&& s)))
  (hend : ∀ a' w', om τ B W e0 V w0 c0 a0 (fun x => ao W x = true) a' w' → ∃ e1 nn, kl τ call res all nn (all.drop m) e1 k = some r ∧ St τ B wB cB sz e1 a' w') :
  ∀ (fuel : Nat) (listed : Array Bool) (a : Act) (w : World), left all.length listed ≤ fuel → listed.size = ops.size → afr all (Lst listed) → (∀ j, Lst listed j → j < m) →
   om τ B W e0 V w0 c0 a0 (fun x => ∃ j, Lst listed j ∧ xb all j = some x) a w → wpAny P .any ops Q fuel listed a w := by
 have hlen : all.length = ops.size := by rw [hall]; simp
 intro fuel
 induction fuel with
 | zero =>
  intro listed a w hf hs hcl hlm h
  have hz := air (Nat.le_zero.1 hf)
  obtain ⟨e1, nn, h1, h2⟩ := hend a w (h.iff fun x => by
   rw [hW]
   constructor
   ·rintro ⟨j, q1, q2⟩
    have hj := hlm j q1
    have ho : all[j]? = some all[j] := List.getElem?_eq_getElem (by omega)
    exact ⟨j, _, hj, ho, by simpa [xb, ho] using q2⟩
   ·rintro ⟨j, o, q1, q2, q3⟩
    exact ⟨j, hz j (by omega), by simp [xb, q2, q3]⟩)
  exact axc hT hcall hall hsz hed htail hQ 0 listed e1 m nn a w hf hs (Nat.le_refl _) hm (fun j => ⟨hlm j, fun hj => hz j (by omega)⟩) h1 h2
 | succ fuel ih =>
  intro listed a w hf hs hcl hlm h
  by_cases hz : ∀ j, j < m → Lst listed j
  ·obtain ⟨e1, nn, h1, h2⟩ := hend a w (h.iff fun x => by
    rw [hW]
    constructor
    ·rintro ⟨j, q1, q2⟩
     have hj := hlm j q1
     have ho : all[j]? = some all[j] := List.getElem?_eq_getElem (by omega)
     exact ⟨j, _, hj, ho, by simpa [xb, ho] using q2⟩
    ·rintro ⟨j, o, q1, q2, q3⟩
     exact ⟨j, hz j q1, by simp [xb, q2, q3]⟩)
   exact axc hT hcall hall hsz hed htail hQ _ listed e1 m nn a w hf hs (Nat.le_refl _) hm (fun j => ⟨hlm j, fun hj => hz j hj⟩) h1 h2
  ·refine ⟨fun hr => absurd (fun j hj => afu hall hs hed hr j (by omega)) hz, fun i hi => ?_⟩
   obtain ⟨h1, h2, h3⟩ := (yv hall hs).1 hi
   rcases Nat.lt_or_ge i m with him | him
   ·obtain ⟨b, s, o, q1, q2, q3⟩ := hloc i him
    have ho : ops[i]? = some o := by rw [hall] at q1; simpa using q1
    have his : i < listed.size := by omega
    refine als hT hcall hall ho h q3 (fun x hw hb => ?_) (fun d hd => ⟨(hW d).2 ⟨i, o, him, q1, hd⟩, ?_, fun hst => by rw [hsa]; exact hsz o (List.mem_of_getElem? q1) d (by rw [← wu hst]; exact hd)⟩) fun a' w' h' => ?_
    ·obtain ⟨j, p1, p2, p3⟩ := (q2 _ hcl h3).1 x (alu hw hb)
     exact ⟨j, p1, p3⟩
    ·rintro ⟨j, p1, p2⟩
     have hj := hlm j p1
     have hoj : all[j]? = some all[j] := List.getElem?_eq_getElem (by omega)
     have := huq i j o _ d him hj q1 hoj hd (by simpa [xb, hoj] using p2)
     exact h2 (this ▸ p1)
    ·have hlf := al1 (n := all.length) (by omega) h1 h2
     refine ih (listed.setIfInBounds i true) a' w' (by omega) (by simpa using hs) (fun j hj => ?_) (fun j hj => ?_) (h'.iff fun x => ?_)
     ·have hmono : ∀ x, Lst listed x → Lst (listed.setIfInBounds i true) x := fun x hx => (pq his).2 (.inl hx)
      rcases (pq his).1 hj with hj | rfl
      ·obtain ⟨o', p1, p2⟩ := hcl j hj
       exact ⟨o', p1, fun e he hb => hmono _ (p2 e he hb)⟩
      ·obtain ⟨o', p1, p2⟩ := h3
       exact ⟨o', p1, fun e he hb => hmono _ (p2 e he hb)⟩
     ·rcases (pq his).1 hj with hj | rfl
      ·exact hlm j hj
      ·exact him
     ·constructor
      ·rintro (⟨j, p1, p2⟩ | hd)
       ·exact ⟨j, (pq his).2 (.inl p1), p2⟩
       ·exact ⟨i, (pq his).2 (.inr rfl), by simp [xb, q1, hd]⟩
      ·rintro ⟨j, p1, p2⟩
       rcases (pq his).1 p1 with p1 | rfl
       ·exact .inl ⟨j, p1, p2⟩
       ·exact .inr (by simpa [xb, q1] using p2)
   ·obtain ⟨s, o, q1, q2, q3⟩ := htail i him h1
    exact absurd (fun j hj => (q1 _ hcl h3).2 j (by rw [kr, Nat.testBit_two_pow_sub_one]; simp; omega)) hz
theorem ais (w : World) (c : Cls) (n : Nat) : Ext w.heap.size w c { w with drawn := n } c :=
 ⟨rfl, rfl, rfl, Nat.le_refl _, fun _ _ _ => ⟨rfl, rfl⟩, fun _ _ _ h hs => ⟨h, hs⟩⟩
theorem av4 (hm : P.follows .mixedOrders = true) (hT : db P τ) (hcall : ∀ f l r, call f l = some r → PC P τ f l r) (hsz : ∀ o ∈ ops.toList, ∀ d, o.dst = some d → d < sz) {id : Nat} {α : Type} {k : Env → Option α} {r : α} {e : Env} {h : List (Oper × Nat)} {t : List Oper} {W : Nat} {n1 n2 : Nat}
  (hsp : abk ops.toList = some (h, t, W)) (hr : j2 τ call ops.toList (mn W (qi W e)) n1 none h (gf W (qi W e)) (fun e' => kl τ call res ops.toList n2 t e' k) = some r) (hst : St τ B wB cB sz e a w)
  (hQ : ∀ e' a' w', k e' = some r → St τ B wB cB sz e' a' w' → Q .normal a' w') : (Code.region id ops true).wp P Q a w := by
 refine wp_region_any hm ?_
 simp only [abk] at hsp
 generalize hws : waits ops.toList 0 [] ops.toList = ws at hsp
 generalize hmm : vq ops.toList.length ws.reverse ops.toList.reverse = m at hsp
 cases hc : (mo 0 ops.toList && nod 0 (fa (ops.toList.take m))) with
 | false => rw [hc] at hsp; cases hsp
 | true =>
 rw [hc] at hsp
 cases hsp
 simp only [Bool.and_eq_true] at hc
 obtain ⟨hed, hnod⟩ := hc
 obtain ⟨hnd, _⟩ := aee hnod
 obtain ⟨w1, w2⟩ := aly hed ops.toList 0 [] rfl rfl (fun j hj => by omega)
 rw [hws] at w1 w2
 have wlen : ws.length = ops.toList.length := by omega
 obtain ⟨t1, t2⟩ := aft ops.toList.length ws ops.toList wlen rfl
 rw [hmm] at t1 t2
 obtain ⟨c, hx, hs, hsize, hdef⟩ := hst
 have hW : ∀ x, ao (gj (fa (ops.toList.take m))) x = true ↔ ∃ (j : Nat) (o : Oper), j < m ∧ ops.toList[j]? = some o ∧ dq o = some x := fun x => by
  rw [me, aa1]
  constructor
  ·rintro ⟨j, o, q1, q2⟩
   rw [List.getElem?_take] at q1
   split at q1
   ·exact ⟨j, o, by assumption, q1, q2⟩
   ·cases q1
  ·rintro ⟨j, o, q1, q2, q3⟩
   exact ⟨j, o, by rw [List.getElem?_take, if_pos q1]; exact q2, q3⟩
 generalize hWd : gj (fa (ops.toList.take m)) = W at *
 have hdl : aq (xd W m ws ops.toList) = aq (fa (ops.toList.take m)) := alz m ws _ (by omega) t1
 have hin : ∀ x, x ∈ aq (xd W m ws ops.toList) ↔ ao W x = true := fun x => by rw [hdl, ← hWd, me]
 obtain ⟨V, e1, k1, k2, k3, k4, k5⟩ := qc τ call ops.toList W (mn W (qi W e)) n1 none (xd W m ws ops.toList) _ _ r (fun _ => none) (fun _ => False) hr
  (fun j b hc => by cases hc) (by rw [hdl]; exact hnd) (fun x hx => (hin x).1 hx) (fun x hx => hx.elim) (fun x hx => hx.elim)
  (fun x hx => by simp [gf, (hin x).1 hx, aa]) (fun x => ⟨fun hw => .inl (by simp [gf, hw, aa]), fun hw => by simp [gf, mn, hw, aa]⟩)
 refine a6a (a0 := a) (W := W) (e0 := mn W (qi W e)) (V := V) (w0 := { w with drawn := w.drawn + 1 }) (c0 := c) (m := m) (k := k) (r := r) (res := res) hT hcall rfl hsz hed t1 (fun i h1 h2 => ?_) hQ hsize hW (fun i j oi oj x h1 h2 h3 h4 h5 h6 => ?_) (fun i hi => ?_) (fun a' w' h => ?_)
  ops.size (Array.replicate ops.size false) a { w with drawn := w.drawn + 1 } ?_ (by simp) (fun j hj => ?_) (fun j hj => ?_) ((om.start (hs.alloc (ais w c _)) W V).iff fun x => ?_)
 ·obtain ⟨s, o, q1, q2, q3⟩ := t2 i h1 h2
  exact ⟨s, o, w2 i _ q1, q2, q3⟩
 ·exact al0 hnd i j oi oj x (by rw [List.getElem?_take, if_pos h1]; exact h3) (by rw [List.getElem?_take, if_pos h2]; exact h4) h5 h6
 ·have hi' : i < ws.length := by omega
  have ho : ops.toList[i]? = some ops.toList[i] := List.getElem?_eq_getElem (by omega)
  have hwi : ws[i]? = some ws[i] := List.getElem?_eq_getElem hi'
  generalize ops.toList[i] = o at ho
  generalize ws[i] = bs at hwi
  obtain ⟨b, s⟩ := bs
  exact ⟨b, s, o, ho, w2 i _ hwi, k5 V (fun _ _ => rfl) _ (aiq m ws _ (by omega) t1 i o b s hi ho hwi)⟩
 ·obtain ⟨c', q1, q2, q3, q4⟩ := h.done (e1 := e1) (fun x hw => hw) (fun x hw => k4 x ((hin x).2 hw)) (fun x hw => (k3 x fun hm => by rw [(hin x).1 hm] at hw; cases hw).trans (by simp [gf, mn, hw, aa]))
  exact ⟨e1, n2, k1, c', (hx.trans ((ais w c _).mono hs.base)).trans q1, q2, q3.trans hsize, q4.trans hdef⟩
 ·unfold left
  refine Nat.le_trans (List.length_filter_le ..) (by simp)
 ·exfalso; unfold Lst at hj; rw [Array.getD_eq_getD_getElem?] at hj
  by_cases hjs : j < ops.size <;> simp [hjs] at hj
 ·exfalso; unfold Lst at hj; rw [Array.getD_eq_getD_getElem?] at hj
  by_cases hjs : j < ops.size <;> simp [hjs] at hj
 ·constructor
  ·exact fun h => h.elim
  ·rintro ⟨j, hj, _⟩
   unfold Lst at hj; rw [Array.getD_eq_getD_getElem?] at hj
   by_cases hjs : j < ops.size <;> simp [hjs] at hj
end
end Go.Proofs.YtmdimhcjogjcgaaGreatDoor.Abs
