/- What is forgotten, what is shut. -/
import Derived.Test.YtmdimhcjogjcgaaGreatDoorGaw
import Derived.LoopN
import Derived.KernelRfl
import Derived.Test.YtmdimhcjogjcgaaGreatDoorGaj
import Derived.Test.YtmdimhcjogjcgaaGreatDoorGad
set_option linter.all false
set_option maxRecDepth 100000
noncomputable section
namespace Go.Proofs.YtmdimhcjogjcgaaGreatDoor.Abs
open Go.RowKit
theorem yw : ∀ (m : List (Nat × AV)) (S j : Nat), ovr (rr S m) j = if ao S j = true then none else (match ovr m j with | some (.own z l) => some (.own z l) | _ => none)
 | [], S, j => by simp [rr, ovr]
 | (o, y) :: r, S, j => by
  have hbit : ao (S ||| 2 ^ o) j = (ao S j || decide (o = j)) := by
   rw [la]
   congr 1
   rw [kr, Nat.testBit_two_pow]
  have hplain : (∀ z l, y ≠ .own z l) → ovr (rr (S ||| 2 ^ o) r) j = if ao S j = true then none else (match ovr ((o, y) :: r) j with | some (.own z l) => some (.own z l) | _ => none) := fun hn => by
   rw [yw r, hbit, nf]
   by_cases hj : o = j
   ·subst hj
    simp only [decide_true, Bool.or_true, if_true]
    split
    ·rfl
    ·split
     ·rename_i z l hh; cases hh; exact absurd rfl (hn z l)
     ·rfl
   ·simp [hj]
  cases y <;> first
   | exact hplain (by intro z l h; cases h)
   | skip
  rename_i z l
  show ovr (aa (ao S o) (rr S r) ((o, .own z l) :: rr (S ||| 2 ^ o) r)) j = _
  cases hS : ao S o with
  | true =>
   show ovr (rr S r) j = _
   rw [yw r, nf]
   by_cases hj : o = j
   ·subst hj; simp [hS]
   ·simp [hj]
  | false =>
   show ovr ((o, .own z l) :: rr (S ||| 2 ^ o) r) j = _
   rw [nf, yw r, hbit, nf]
   by_cases hj : o = j
   ·subst hj; simp [hS]
   ·simp [hj]
theorem aa2 : ∀ (m : List (Nat × AV)) (j : Nat), (∀ z l, ovr m j ≠ some (.own z l)) → ovr (uo m) j = ovr m j
  | [], j, _ => rfl
  | (o, y) :: r, j, h => by
    rw [nf] at h
    have hrest : o ≠ j → ovr (uo r) j = ovr r j := fun hj => aa2 r j (by rw [if_neg hj] at h; exact h)
    cases y <;> first
      | (show ovr ((o, _) :: uo r) j = _
         rw [nf, nf]
         by_cases hj : o = j
         · rw [if_pos hj, if_pos hj]
         · rw [if_neg hj, if_neg hj]; exact hrest hj)
      | skip
    rename_i z l
    show ovr (uo r) j = _
    by_cases hj : o = j
    · rw [if_pos hj] at h; exact absurd rfl (h z l)
    · rw [nf, if_neg hj]; exact hrest hj
section
variable {P : Program} {τ : Tab} {B : Nat} {wB : World} {cB c : Cls} {a : Act} {w : World} {sz : Nat} {e : Env}
theorem qp.norm {d : Nat} {u : Value} {z : Nat} {cs : List AV} {m : List (Nat × AV)} (h : qp B w c d u z cs m) : qp B w c d u z (patch cs (uo m)) (ajh m) := by
 obtain ⟨b, vs, ty, h1, h2, h3, h4, h5, h6, h7, h8, h9⟩ := h
 have hov : ∀ j, ovr (ajh m) j = (match ovr m j with | some (.own z l) => some (.own z l) | _ => none) := fun j => by
  unfold ajh; rw [yw, ng]; simp
 refine ⟨b, vs, ty, h1, h2, h3, h4, h5, by rw [uw, h6], fun j x u p1 p2 p3 => ?_, fun j x u p1 p2 => ?_, fun j x p1 => ?_⟩
 ·rw [hov] at p1
  have hno : ∀ z l, ovr m j ≠ some (.own z l) := fun z l hh => by rw [hh] at p1; cases p1
  rcases yk _ _ _ _ p2 with ⟨y, q1, rfl⟩ | ⟨q1, q2⟩
  ·rw [aa2 m j hno] at q1
   exact (h8 j y u q1 p3).frz
  ·rw [aa2 m j hno] at q1
   exact h7 j x u q1 q2 p3
 ·rw [hov] at p1
  split at p1
  ·rename_i z' l hh; cases p1; exact h8 j _ u hh p2
  ·cases p1
 ·rw [hov] at p1
  split at p1
  ·rename_i z' l hh; cases p1; exact h9 j _ hh
  ·cases p1
theorem ax.norm {T : Nat → Value} {e' : Env} (h : ax τ B w c T e) (he : ∀ x, e' x = .undef ∨ e' x = cn (e x)) : ax τ B w c T e' := by
 refine ⟨h.base, h.g, fun d => ?_⟩
 rcases he d with hd | hd
 ·rw [hd]; trivial
 ·rw [hd]
  have := h.slot d
  cases hed : e d <;> rw [hed] at this <;> first
   | exact this
   | exact this.1
   | trivial
   | exact qp.norm this
theorem av5 {L : List Nat} {g : Nat → AV} (x : Nat) : look (L.map fun i => (i, g i)) x = .undef ∨ look (L.map fun i => (i, g i)) x = g x := by
 induction L with
 | nil => exact .inl rfl
 | cons i L ih =>
  simp only [List.map_cons, look]
  by_cases hx : x = i
  ·subst hx; exact .inr (by simp [aa])
  ·rw [du hx]; exact ih
theorem ax.forget {T : Nat → Value} (h : ax τ B w c T e) (L : List Nat) : ax τ B w c T (Abs.forget L e) := h.norm fun x => av5 x
theorem St.rz {ann : Nat → Option (List Nat)} {cd : Code} (h : St τ B wB cB sz e a w) : St τ B wB cB sz (Abs.rz ann cd e) a w := by
 obtain ⟨c, h1, h2, h3⟩ := h
 refine ⟨c, h1, ?_, h3⟩
 unfold Abs.rz
 split
 ·split
  ·exact h2.forget _
  ·exact h2
 ·exact h2
theorem St.fgJ {ann : Nat → Option (List Nat)} {cd : Code} (h : St τ B wB cB sz e a w) : St τ B wB cB sz (Abs.fgJ ann cd e) a w := by
 obtain ⟨c, h1, h2, h3⟩ := h
 refine ⟨c, h1, ?_, h3⟩
 unfold Abs.fgJ
 split
 ·split
  ·exact h2.forget _
  ·exact h2
 ·exact h2
def frB (B : Nat) (c : Cls) (s : Nat) : Cls := fun b => match c b with
 | .box d => if B ≤ b ∧ d = s then .frz else .box d
 | k => k
theorem av6 {s b i : Nat} (h : dw c b i) : dw (frB B c s) b i := by
 unfold dw frB at *
 cases hk : c b with
 | frz => trivial
 | own st g => rw [hk] at h; exact h
 | box d => rw [hk] at h; exact h.elim
theorem ac9 (w : World) (s : Nat) : Ext B w c w (frB B c s) := by
 refine ⟨rfl, rfl, rfl, Nat.le_refl _, fun b hb _ => ⟨rfl, ?_⟩, fun b i v hv hs => ⟨hv, av6 hs⟩⟩
 unfold frB
 cases hk : c b with
 | frz => rfl
 | own st g => rfl
 | box d => simp; omega
theorem av7 (e : Env) (s : Nat) : Abs.set e s (e s) = e := by
 funext x
 by_cases h : x = s
 ·subst h; rw [cy]
 ·rw [ea _ _ h]
theorem St.a6b (h : St τ B wB cB sz e a w) (s : Nat) : St τ B wB cB sz (Abs.set e s (ajk (e s))) a w := by
 by_cases hb : ∃ z cs m, e s = .boxv z cs m
 ·obtain ⟨z, cs, m, hes⟩ := hb
  obtain ⟨c, h1, h2, h3⟩ := h
  have hbox := h2.slot s
  rw [hes] at hbox
  obtain ⟨b, vs, ty, q1, q2, q3, q4, q5, q6, q7, q8, q9⟩ := hbox
  have hU : ax τ B w c (aj a) (Abs.set e s .undef) := h2.ku fun x => by
   by_cases hx : x = s
   ·subst hx; rw [cy]; exact .undef _
   ·rw [ea _ _ hx]; exact .refl _
  have hch : Chg (Abs.set e s .undef) w c w (frB B c s) := fun b' _ hl => by
   refine ⟨rfl, ?_⟩
   unfold frB
   cases hk : c b' with
   | frz => rfl
   | own st g => rfl
   | box d =>
    rw [hk] at hl
    obtain ⟨z', cs', m', hl⟩ := hl
    have hds : d ≠ s := fun hh => by subst hh; rw [cy] at hl; cases hl
    simp [hds]
  have hs' := hU.change (ac9 w s) hch
  refine ⟨frB B c s, h1.trans (ac9 w s), ?_, h3⟩
  have hrep : Rep w (frB B c s) (aj a s) (.eptr z (patch cs m) 0) := by
   rw [q1]
   have := Rep.eptr (w := w) (c := frB B c s) b 0 z (patch cs m) 0 (fun j => vs.getD j undef) (by rw [uw, q6]) (fun j hj => by rw [cell_of q3, Nat.zero_add]; simp [q5, hj]) (fun j hj => by unfold dw frB; simp [q4, q2]) (fun j x hx => by
    have hj : j < z := by have := (List.getElem?_eq_some_iff.1 hx).1; rw [uw, q6] at this; exact this
    have hvj : vs[j]? = some (vs.getD j undef) := by simp [q5, hj]
    rcases yk _ _ _ _ hx with ⟨y, p1, rfl⟩ | ⟨p1, p2⟩
    ·exact (q8 j y _ p1 hvj).frz.ext (ac9 (B := B) w s)
    ·exact (q7 j x _ p1 p2 hvj).ext (ac9 (B := B) w s))
   exact this
  have := hs'.again (d := s) (v := .eptr z (patch cs m) 0) (e' := Abs.set (Abs.set e s .undef) s (.eptr z (patch cs m) 0)) hrep rfl rfl
  have he : Abs.set (Abs.set e s .undef) s (.eptr z (patch cs m) 0) = Abs.set e s (ajk (e s)) := by
   funext x
   by_cases hx : x = s
   ·subst hx; rw [cy, cy, hes]; rfl
   ·rw [ea _ _ hx, ea _ _ hx, ea _ _ hx]
  rw [← he]; exact this
 ·have : ajk (e s) = e s := by
   cases hes : e s <;> first | rfl | exact absurd ⟨_, _, _, hes⟩ hb
  rw [this, av7]; exact h
theorem St.nx : ∀ (l : List Operand) (e : Env), St τ B wB cB sz e a w → St τ B wB cB sz (Abs.nx e l) a w
 | [], e, h => h
 | .tmp s :: l, e, h => St.nx l _ (h.a6b s)
 | .const _ :: l, e, h => St.nx l _ h
 | .global _ :: l, e, h => St.nx l _ h
 | .func _ :: l, e, h => St.nx l _ h
theorem St.lh : ∀ (l : List Oper) (e : Env), St τ B wB cB sz e a w → St τ B wB cB sz (Abs.lh e l) a w
 | [], e, h => h
 | o :: l, e, h => by
  unfold Abs.lh
  split
  ·exact St.lh l _ (St.nx _ _ h)
  ·exact St.lh l _ h
end
end Go.Proofs.YtmdimhcjogjcgaaGreatDoor.Abs
namespace Go.Proofs.YtmdimhcjogjcgaaGreatDoor.Abs
open Go.RowKit
def a2w : Ex → Exit
 | .normal => .normal
 | .exit id => .exit id
 | .ret => .ret
def KOK (τ : Tab) (B : Nat) (wB : World) (cB : Cls) (sz : Nat) (K : fe) (r : AV) (Q : Exit → Act → World → Prop) : Prop := ∀ x e a w, K x e = some r → St τ B wB cB sz e a w → Q (a2w x) a w
section
variable {P : Program} {τ : Tab} {B : Nat} {wB : World} {cB : Cls} {sz n N : Nat} {call : Nat → List AV → Option AV} {ann : Nat → Option (List Nat)} {res : List Nat}
theorem ap2 (hm : P.follows .mixedOrders = true) (hT : db P τ) (hcall : ∀ f l r, call f l = some r → PC P τ f l r) {id : Nat} {ops : Array Oper} {draw : Bool} {e : Env} {a : Act} {w : World} {α : Type} {k : Env → Option α} {r : α} {Q : Exit → Act → World → Prop}
  (hsz : ∀ o ∈ ops.toList, ∀ d, o.dst = some d → d < sz) (h : sa τ call res ops.toList draw e k = some r) (hst : St τ B wB cB sz e a w) (hQ : ∀ e' a' w', k e' = some r → St τ B wB cB sz e' a' w' → Q .normal a' w') :
  (Code.region id ops draw).wp P Q a w := by
 have hst' := St.lh ops.toList _ (hst.ku fun x => axz (e x) : St τ B wB cB sz (clean e) a w)
 cases draw with
 | false =>
  refine wp_region ?_
  have := ahe hT hcall rfl hsz _ ops.toList _ 0 a w rfl h hst' hQ
  rw [List.range_eq_range']
  simpa using this
 | true =>
  unfold sa at h
  simp only at h
  split at h
  ·rename_i hh t W hsp
   exact av4 hm hT hcall hsz hsp h hst' hQ
  ·cases h
theorem rp (hm : P.follows .mixedOrders = true) (hT : db P τ) (hcall : ∀ f l r, call f l = some r → PC P τ f l r) (hn : n ≤ sz) {r : AV} : ∀ (cd : Code) (e : Env) (K : fe) (Q : Exit → Act → World → Prop) (a : Act) (w : World), lk n cd = true →
  run τ ann call res (iter N) cd e K = some r → St τ B wB cB sz e a w → KOK τ B wB cB sz K r Q → cd.wp P Q a w
 | .skip, e, K, Q, a, w, _, h, hst, hK => wp_skip (hK .normal e a w h hst)
 | .region id ops draw, e, K, Q, a, w, hd, h, hst, hK => by
  refine ap2 hm hT hcall (fun o ho d hdd => ?_) h hst fun e' a' w' h' hst' => hK .normal e' a' w' h' hst'
  simp only [lk, List.all_eq_true] at hd
  have := hd o ho
  rw [hdd] at this
  have : d < n := by simpa using this
  exact Nat.lt_of_lt_of_le this hn
 | .seq x y, e, K, Q, a, w, hd, h, hst, hK => by
  simp only [lk, Bool.and_eq_true] at hd
  refine wp_seq (rp hm hT hcall hn x e _ _ a w hd.1 h hst fun z e' a' w' h' hst' => ?_)
  cases z with
  | normal => exact rp hm hT hcall hn y _ K Q a' w' hd.2 h' hst'.fgJ hK
  | exit j => exact hK (.exit j) e' a' w' h' hst'
  | ret => exact hK .ret e' a' w' h' hst'
 | .cond q x y, e, K, Q, a, w, hd, h, hst, hK => by
  simp only [lk, Bool.and_eq_true] at hd
  obtain ⟨b1, hb, g⟩ := ck (show de e q _ = some r from h)
  obtain ⟨t, e1, g⟩ := zn g
  subst e1
  obtain ⟨c, h1, h2, h3⟩ := hst
  obtain ⟨d, hq⟩ := hb.slot h2
  have hv : a.eval q = .bool t := eo hq
  rcases ant g with ⟨rfl, g⟩ | ⟨rfl, g⟩
  ·exact wp_cond_true hv (rp hm hT hcall hn x e K Q a w hd.1 g ⟨c, h1, h2, h3⟩ hK)
  ·exact wp_cond_false hv (rp hm hT hcall hn y e K Q a w hd.2 g ⟨c, h1, h2, h3⟩ hK)
 | .block id x, e, K, Q, a, w, hd, h, hst, hK => by
  refine wp_block (rp hm hT hcall hn x e _ _ a w hd h hst fun z e' a' w' h' hst' => ?_)
  cases z with
  | normal => exact hK .normal e' a' w' h' hst'
  | exit j =>
   have h' : aa (Nat.beq j id) (K .normal e') (K (.exit j) e') = some r := h'
   show if j = id then Q .normal a' w' else Q (.exit j) a' w'
   by_cases hj : j = id
   ·subst hj
    rw [agn] at h'
    rw [if_pos rfl]; exact hK .normal e' a' w' h' hst'
   ·rw [du hj] at h'
    rw [if_neg hj]; exact hK (.exit j) e' a' w' h' hst'
  | ret => exact hK .ret e' a' w' h' hst'
 | .loop x, e, K, Q, a, w, hd, h, hst, hK => by
  have key : ∀ (m : Nat) (e : Env) (a : Act) (w : World), iter m (rz ann x) (run τ ann call res (iter N) x) K e = some r → St τ B wB cB sz e a w → Code.rounds P x Q m a w := by
   intro m
   induction m with
   | zero => intro e a w h _; cases h
   | succ m ih =>
    intro e a w h hst
    refine rp hm hT hcall hn x e _ _ a w hd h hst fun z e' a' w' h' hst' => ?_
    cases z with
    | normal => exact ih _ a' w' h' hst'.rz
    | exit j => exact hK (.exit j) e' a' w' h' hst'
    | ret => exact hK .ret e' a' w' h' hst'
  exact wp_loop_rounds N (key N _ a w h hst.rz)
 | .exit id, e, K, Q, a, w, _, h, hst, hK => wp_exit (hK (.exit id) e a w h hst)
 | .ret, e, K, Q, a, w, _, h, hst, hK => wp_ret (hK .ret e a w h hst)
 | .rangeFunc .., e, K, Q, a, w, _, h, _, _ => by cases h
 | .scope .., e, K, Q, a, w, _, h, _, _ => by cases h
 | .label .., e, K, Q, a, w, _, h, _, _ => by cases h
 | .goto .., e, K, Q, a, w, _, h, _, _ => by cases h
 | .refuse .., e, K, Q, a, w, _, h, _, _ => by cases h
end
end Go.Proofs.YtmdimhcjogjcgaaGreatDoor.Abs
namespace Go.Proofs.YtmdimhcjogjcgaaGreatDoor.Abs
open Go.RowKit
def zu : ResultVar → gp
 | .tmp t => .slot t
 | .cell s _ => .cell s 0
def xy (B : Nat) (c : Cls) (hs : List gp) : Cls := fun b => match c b with
 | .own st h => if B ≤ b then (match hs.findIdx? (fun g => decide (g = h)) with | some i => .own st (.ret i) | none => .own st h) else .own st h
 | k => k
section
variable {P : Program} {τ : Tab} {B : Nat} {w : World} {c : Cls} {a : Act} {e : Env}
theorem asv {hs : List gp} (b i : Nat) : dw (xy B c hs) b i ↔ dw c b i := by
 unfold dw xy
 cases hk : c b with
 | frz => simp
 | box => simp
 | own st g =>
  by_cases hB : B ≤ b
  ·simp only [hB, if_true]
   cases hs.findIdx? (fun h => decide (h = g)) <;> exact Iff.rfl
  ·simp [hB]
theorem aa3 (B : Nat) (w : World) (c : Cls) (hs : List gp) : Ext B w c w (xy B c hs) := by
 refine ⟨rfl, rfl, rfl, Nat.le_refl _, fun b hb _ => ⟨rfl, ?_⟩, fun b i v hv hst => ⟨hv, (asv b i).2 hst⟩⟩
 unfold xy
 cases hk : c b with
 | frz => rfl
 | box => rfl
 | own st g => simp [Nat.not_le.2 hb]
theorem gq.xy {hs : List gp} (hnd : hs.Nodup) {i : Nat} {h : gp} {u : Value} {x : AV} (hi : hs[i]? = some h) (hp : gq B w c h u x) : gq B w (Abs.xy B c hs) (.ret i) u x := by
 rcases hp.either with ⟨sz, l, rfl, ho⟩ | hp
 ·refine ⟨ho.1.ext (aa3 B w c hs), ho.2.imp id ?_⟩
  rintro ⟨b, cap, vs, ty, h1, h2, h3, h4, h5, h6, h7⟩
  refine ⟨b, cap, vs, ty, h1, h2, h3, h4, h5, h6, ?_⟩
  have hf : hs.findIdx? (fun g => decide (g = h)) = some i := by
   rw [List.findIdx?_eq_some_iff_getElem]
   obtain ⟨hl, hg⟩ := List.getElem?_eq_some_iff.1 hi
   refine ⟨hl, by simp [hg], fun j hj => ?_⟩
   simp only [Bool.not_eq_true, decide_eq_false_iff_not]
   intro hh
   exact (List.pairwise_iff_getElem.1 hnd) j i (by omega) hl hj (hh.trans hg.symm)
  unfold Abs.xy
  simp only [h7, h2, if_true, hf]
 ·have := hp.ext (aa3 B w c hs)
  cases x <;> first | exact this.elim | exact this
theorem ay2 (hT : db P τ) (hs : ax τ B w c (aj a) e) {rv : ResultVar} {x : AV} (h : abl τ e rv some = some x) :
  ∃ u, (match rv with | .tmp t => pure (a.tmps.getD t undef) | .cell s t => do loadVar t (← asAddr (a.tmps.getD s undef)) : Sem Value).run P w = .ok u w ∧ gq B w c (zu rv) u x := by
 cases rv with
 | tmp t =>
  refine ⟨aj a t, rfl, ?_⟩
  obtain ⟨hne, h⟩ := xg (show nz (e t) _ = some x from h)
  have hst := hs.slot t
  cases het : e t <;> rw [het] at h hst <;> first
   | exact absurd het hne
   | (cases h; exact hst)
   | (cases h; exact hst.1)
   | cases h
 | cell s t =>
  unfold abl at h
  simp only at h
  split at h
  ·rename_i z cs m hes
   have hbox := hs.slot s
   rw [hes] at hbox
   split at h
   ·rename_i fs sz bb zz hti
    obtain ⟨hz, h⟩ := bn h
    have hx : pf τ t s z cs m 0 some = some x := by
     unfold pf
     rw [hti]
     simp only [hz, Nat.beq]
     exact h
    obtain ⟨b, h1, u, h2, h3⟩ := zb (d := 0) hT hbox hes hx
    cases h
    refine ⟨u, ?_, h3⟩
    have h1' : a.tmps.getD s undef = .pointer (some ⟨b, 0, none⟩) := h1
    simp [h1', asAddr, h2]
   ·cases h
   ·rename_i ti hns hna hti
    obtain ⟨hk, h⟩ := bn h
    obtain ⟨y, hy, h⟩ := aag h
    obtain ⟨hne, h⟩ := xg h
    cases h
    obtain ⟨b, vs, ty, h1, h2, h3, h4⟩ := hbox
    obtain ⟨u, q1, q2⟩ := alm (h1 ▸ ⟨b, vs, ty, h1, h2, h3, h4⟩ : qp B w c s (.pointer (some ⟨b, 0, none⟩)) z cs m) ⟨ty, h3⟩ hy
    refine ⟨u, ?_, ?_⟩
    ·have h1' : a.tmps.getD s undef = .pointer (some ⟨b, 0, none⟩) := h1
     have ha := pz (w := w) hT hti
     have hf : (isAgg t).run P w = .ok false w := by
      obtain ⟨k, sz, bb, zz⟩ := ti
      cases k <;> first
       | exact ha
       | exact (hns _ _ _ _ rfl).elim
       | exact (hna _ _ _ _ _ rfl).elim
       | cases hk
     have hl : w.cell? ⟨b, 0, none⟩ = some u := by rw [cell_of h3]; exact q1
     have hl2 : (loadVar t ⟨b, 0, none⟩).run P w = .ok u w := by
      simp only [loadVar, Sem.run_bind, hf, Result.andThen_ok, Bool.false_eq_true, if_false]
      exact qj hl
     simp only [h1', asAddr, Sem.run_bind, Sem.run_pure, Result.andThen_ok]
     exact hl2
    ·cases x <;> first
      | exact q2
      | exact absurd rfl hne
      | cases q2
   ·cases h
  ·cases h
theorem afv {τ : Tab} {e : Env} : ∀ {rs : List ResultVar} {k : List AV → Option AV} {r : AV}, ur τ e rs k = some r → ∃ l, l.length = rs.length ∧ (∀ (i : Nat) (rv : ResultVar) (x : AV), rs[i]? = some rv → l[i]? = some x → abl τ e rv some = some x) ∧ k l = some r
 | [], k, r, h => ⟨[], rfl, fun i rv x hx => by simp at hx, h⟩
 | rv :: rs, k, r, h => by
  have hn : ∀ (k : AV → Option AV), abl τ e rv k = (abl τ e rv some).bind k := fun k => by
   cases rv with
   | tmp t => show nz (e t) _ = (nz (e t) _).bind k; generalize e t = v; cases v <;> rfl
   | cell s t =>
    unfold abl
    simp only
    split
    ·split
     ·simp only [dj]; rfl
     ·rfl
     ·simp only [dj, aex, aj4]; rfl
     ·rfl
    ·rfl
  have h : abl τ e rv (fun a => ur τ e rs fun l => k (a :: l)) = some r := h
  rw [hn] at h
  obtain ⟨x, h1, h2⟩ := Option.bind_eq_some_iff.1 h
  obtain ⟨l, q1, q2, q3⟩ := afv h2
  refine ⟨x :: l, by simp [q1], fun i rv' y hy hy' => ?_, q3⟩
  cases i with
  | zero => simp only [List.getElem?_cons_zero, Option.some.injEq] at hy hy'; subst hy; subst hy'; exact h1
  | succ i => simp only [List.getElem?_cons_succ] at hy hy'; exact q2 i rv' y hy hy'
theorem adr : ∀ {l : List Nat}, xf l = true → l.Nodup
 | [], _ => by simp
 | x :: r, h => by
  simp only [xf, Bool.and_eq_true] at h
  rw [List.nodup_cons]
  refine ⟨fun hm => ?_, adr h.2⟩
  have h1 : (r.any fun y => Nat.beq x y) = false := by simpa using h.1
  rw [List.any_eq_false] at h1
  exact absurd (by simp) (h1 x hm)
theorem ads : ∀ {rs : List ResultVar}, (rs.map zm).Nodup → (rs.map zu).Nodup
 | [], _ => by simp
 | rv :: rs, h => by
  rw [List.map_cons, List.nodup_cons] at h ⊢
  refine ⟨fun hm => h.1 ?_, ads h.2⟩
  obtain ⟨rv', h1, h2⟩ := List.mem_map.1 hm
  refine List.mem_map.2 ⟨rv', h1, ?_⟩
  cases rv <;> cases rv' <;> simp [zu, zm] at h2 ⊢ <;> rw [h2]
theorem al2 {β : Type} {f : β → Sem Value} : ∀ (l : List β) (us : List Value), us.length = l.length → (∀ (i : Nat) (x : β) (u : Value), l[i]? = some x → us[i]? = some u → (f x).run P w = .ok u w) → (l.mapM f).run P w = .ok us w
 | [], us, h, _ => by obtain rfl := List.eq_nil_of_length_eq_zero h; simp
 | x :: l, [], h, _ => by cases h
 | x :: l, u :: us, h, hf => by
  have h1 := hf 0 x u rfl rfl
  have h2 := al2 l us (by simpa using h) fun i y v hy hv => hf (i + 1) y v (by simpa using hy) (by simpa using hv)
  simp [List.mapM_cons, h1, h2]
theorem adt (hT : db P τ) {fn : Func} {r : AV} (hnd : xf (fn.results.toList.map zm) = true) (hs : ax τ B w c (aj a) e) (h : ur τ e fn.results.toList oneOf = some r) :
  ∃ v, (results fn a.tmps).run P w = .ok v w ∧ abt B w (xy B c (fn.results.toList.map zu)) v r := by
 obtain ⟨l, h1, h2, h3⟩ := afv h
 have hnd' := ads (adr hnd)
 have hall : ∀ i, i < fn.results.toList.length → ∃ u, (∀ rv, fn.results.toList[i]? = some rv → (match rv with | .tmp t => pure (a.tmps.getD t undef) | .cell s t => do loadVar t (← asAddr (a.tmps.getD s undef)) : Sem Value).run P w = .ok u w) ∧
   ∀ x, l[i]? = some x → gq B w (xy B c (fn.results.toList.map zu)) (.ret i) u x := fun i hi => by
  have hrv : fn.results.toList[i]? = some fn.results.toList[i] := List.getElem?_eq_getElem hi
  have hx : l[i]? = some (l[i]'(by omega)) := List.getElem?_eq_getElem (by omega)
  obtain ⟨u, q1, q2⟩ := ay2 hT hs (h2 i _ _ hrv hx)
  refine ⟨u, fun rv hrv' => ?_, fun x hx' => ?_⟩
  ·rw [hrv] at hrv'; cases hrv'; exact q1
  ·rw [hx] at hx'; cases hx'
   exact q2.xy hnd' (by rw [List.getElem?_map, hrv]; rfl)
 obtain ⟨us, hlen, hus⟩ : ∃ us : List Value, us.length = fn.results.toList.length ∧ ∀ (i : Nat) (u : Value), us[i]? = some u → (∀ rv, fn.results.toList[i]? = some rv → (match rv with | .tmp t => pure (a.tmps.getD t undef) | .cell s t => do loadVar t (← asAddr (a.tmps.getD s undef)) : Sem Value).run P w = .ok u w) ∧
   ∀ x, l[i]? = some x → gq B w (xy B c (fn.results.toList.map zu)) (.ret i) u x := by
  refine ⟨(List.range fn.results.toList.length).map fun i => if hi : i < fn.results.toList.length then (hall i hi).choose else undef, by simp, fun i u hu => ?_⟩
  rw [List.getElem?_map] at hu
  by_cases hi : i < fn.results.toList.length
  ·rw [List.getElem?_range hi] at hu
   simp only [Option.map_some, hi, dif_pos, Option.some.injEq] at hu
   subst hu
   exact (hall i hi).choose_spec
  ·rw [List.getElem?_eq_none (by simpa using hi)] at hu; cases hu
 have hrun := al2 (P := P) (w := w) fn.results.toList us hlen fun i rv u hrv hu => (hus i u hu).1 rv hrv
 have hres : (results fn a.tmps).run P w = .ok (if h : us.toArray.size = 1 then us.toArray[0] else .tuple us.toArray) w := by
  unfold results
  rw [Array.mapM_eq_mapM_toList]
  simp only [Sem.run_bind, Sem.run_map, Sem.run_pure]
  have key : ∀ (X : Result (List Value)), X = .ok us w → ((X.andThen fun a w' => Result.ok a.toArray w').andThen fun (a : Array Value) w' => Result.ok (if h : a.size = 1 then a[0] else Value.tuple a) w') = .ok (if h : us.toArray.size = 1 then us.toArray[0] else .tuple us.toArray) w := by
   rintro _ rfl; rfl
  exact key _ hrun
 refine ⟨_, hres, ?_⟩
 by_cases h1' : us.length = 1
 ·obtain ⟨x, hx⟩ : ∃ x, l = [x] := List.length_eq_one_iff.1 (by omega)
  subst hx
  cases h3
  have hu0 : us[0]? = some (us[0]'(by omega)) := List.getElem?_eq_getElem (by omega)
  have hp := (hus 0 _ hu0).2 r rfl
  rw [dif_pos (by simpa using h1')]
  show abt B w _ (us[0]'(by omega)) r
  cases r <;> first
   | exact hp
   | exact (hp : False).elim
 ·have hr : r = .tup l := by
   cases l with
   | nil => cases h3; rfl
   | cons x l => cases l with
    | nil => exact absurd (by rw [hlen, ← h1]; rfl) h1'
    | cons y l => cases h3; rfl
  subst hr
  rw [dif_neg (by simpa using h1')]
  exact ⟨us.toArray, rfl, by simp [hlen, h1], fun i x u hx hu => (hus i u (by simpa using hu)).2 x hx⟩
structure aa4 (P : Program) (S : Sys) : Prop where
 tab : db P S.τ
 fol : P.follows .mixedOrders = true
 or : ∀ f g, S.O f = some g → ∀ l r, g l = some r → PC P S.τ f l r
 fn : ∀ f d, S.F f = some d → ∃ fn, P.funcs[f]? = some fn ∧ bj fn = some d
theorem adu : ∀ (l : List AV) (n d : Nat), look (pv n l) d = if n ≤ d then (l[d - n]?).getD .undef else .undef
 | [], n, d => by simp [pv, look]
 | x :: l, n, d => by
  simp only [pv, look]
  by_cases h : d = n
  ·subst h; simp [aa]
  ·rw [du h]
   show look (pv (n + 1) l) d = _
   rw [adu l (n + 1) d]
   by_cases h1 : n + 1 ≤ d
   ·rw [if_pos h1, if_pos (by omega), show d - n = (d - (n + 1)) + 1 by omega]; simp
   ·rw [if_neg h1, if_neg (by omega)]
theorem ab8 {S : Sys} (hS : aa4 P S) : ∀ (n f : Nat) (l : List AV) (r : AV), iw S n f l = some r → PC P S.τ f l r
 | 0, f, l, r, h => by cases h
 | n + 1, f, l, r, h => by
  unfold iw at h
  split at h
  ·rename_i g hO
   exact hS.or f g hO l r h
  ·split at h
   ·rename_i d hF
    obtain ⟨fn, hf, hfd⟩ := hS.fn f d hF
    unfold bj at hfd
    cases hb : fn.body with
    | none => rw [hb] at hfd; cases hfd
    | some cd =>
    rw [hb] at hfd
    simp only at hfd
    cases hok : (lk fn.ntmps cd && xf (fn.results.toList.map zm) && !(fn.name == "runtime.NumGoroutine")) with
    | false => rw [hok] at hfd; cases hfd
    | true =>
    rw [hok] at hfd
    cases hfd
    simp only [Bool.and_eq_true] at hok
    obtain ⟨⟨hds, hnd⟩, hnm⟩ := hok
    intro w c vs hg hsz hargs
    refine .inl ⟨?_, ?_⟩
    ·have : ¬ fn.name = "runtime.NumGoroutine" := by simpa using hnm
     simp [callFunc, hf, this, hb]
    ·have hst : St S.τ w.heap.size w c (vs ++ Array.replicate (fn.ntmps - vs.size) undef).size (look (pv 0 l)) { tmps := vs ++ Array.replicate (fn.ntmps - vs.size) undef, defers := [] } w := by
      refine ⟨c, Ext.refl .., ⟨Nat.le_refl _, hg, fun d => ?_⟩, rfl, rfl⟩
      rw [adu, if_pos (Nat.zero_le _), Nat.sub_zero]
      cases hd : l[d]? with
      | none => trivial
      | some x =>
       have hdl : d < vs.size := by rw [hsz]; exact (List.getElem?_eq_some_iff.1 hd).1
       have hv : vs[d]? = some vs[d] := by simp [hdl]
       have hslot : aj { tmps := vs ++ Array.replicate (fn.ntmps - vs.size) undef, defers := [] } d = vs[d] := by
        unfold aj
        rw [Array.getD_eq_getD_getElem?, Array.getElem?_append_left hdl, hv]; rfl
       rw [hslot]
       have hax := hargs d _ x hv hd
       generalize vs[d] = u at hax
       rcases hax with hp | hp
       ·exact hp.slot
       ·cases x <;> first
         | exact hp
         | trivial
         | cases hp
     refine calls_of_wp hf hb ?_
     refine rp (n := fn.ntmps) hS.fol hS.tab (fun f l r h => ab8 hS n f l r h) (by simp; omega) cd _ _ _ _ w hds h hst fun z e a w' hK hst' => ?_
     obtain ⟨c', q1, q2, q3, q4⟩ := hst'
     have hfin : ur S.τ e fn.results.toList oneOf = some r → bodyPost P fn (fun x w' => ∃ v, x = .returned v ∧ ∃ c', Ext w.heap.size w c w' c' ∧ abt w.heap.size w' c' v r) .normal a w' := fun hr => by
      obtain ⟨v, p1, p2⟩ := adt hS.tab hnd q2 hr
      exact ⟨q4, v, p1, v, rfl, _, q1.trans (aa3 ..), p2⟩
     cases z with
     | normal => exact hfin hK
     | ret => exact hfin hK
     | exit j => cases hK
   ·cases h
end
end Go.Proofs.YtmdimhcjogjcgaaGreatDoor.Abs
namespace Go.Proofs.YtmdimhcjogjcgaaGreatDoor.Abs
open Go.RowKit
def aef (u : Value) (a : AV) : Bool := match a, u with
 | .own _ [], .slice none 0 0 => true
 | .sl _ [], .slice none 0 0 => true
 | .bool b, .bool c => b == c
 | .int k n, .int k' n' => ajw k k' && decide (n = n')
 | .str s, .string s' => decide (s'.data.toList = s)
 | .undef, u => u.oneCell'
 | _, _ => false
def ada : List Value → List AV → Bool
 | u :: us, a :: as_ => aef u a && ada us as_
 | _, _ => true
def aa5 (P : Program) (S : Nat) : List Field → List (Nat × Nat) → Bool
 | [], [] => true
 | f :: fs, (o, t) :: r => Nat.beq f.offset o && Nat.beq f.type t && (match P.info? f.type with | some i => Nat.blt 0 i.size && Nat.ble (f.offset + i.size) S | none => false) && aa5 P S fs r
 | _, _ => false
def aok (P : Program) (ti : TI) (u : Option TypeDesc) : Bool := match ti.k, u with
 | .bool, some .bool => Nat.beq ti.sz 1
 | .int k, some (.int k') => ajw k' k && Nat.beq ti.sz 1
 | .str, some .string => Nat.beq ti.sz 1
 | .slice e, some (.slice e') => Nat.beq e' e && Nat.beq ti.sz 1 && (match P.info? e with | some i => Nat.ble i.bytes 128 | none => true)
 | .struct fs, some (.struct F) => aa5 P ti.sz F.toList fs
 | .func, some (.func _ _ _) => Nat.beq ti.sz 1
 | .tuple _, _ => true
 | .array n e, some (.array n' e') => Nat.beq n' n && Nat.beq e' e
 | _, _ => false
def ap3 (P : Program) (t : Nat) (ti : TI) : Bool := match P.info? t with
 | none => false
 | some i => (match i.zero with
  | none => false
  | some z => Nat.beq i.size ti.sz && Nat.beq i.bytes ti.bytes && Nat.beq z.cells.size ti.sz && Nat.beq ti.zero.length ti.sz && ada z.cells.toList ti.zero && Nat.blt 0 ti.sz && aok P ti (P.underlying t))
theorem anc {u : Value} {a : AV} (h : aef u a = true) : ao4 u a := by
 unfold aef at h
 split at h
 ·exact rfl
 ·intro w c; exact .nil _
 ·obtain rfl := eq_of_beq h; intro w c; exact .bool _
 ·simp only [Bool.and_eq_true, decide_eq_true_eq] at h
  obtain ⟨h1, rfl⟩ := h
  obtain rfl := ac0 h1
  intro w c; exact .int _ _
 ·obtain rfl := of_decide_eq_true h
  intro w c; exact .str _
 ·intro w c; exact .undef _ h
 ·cases h
theorem afw : ∀ {us : List Value} {l : List AV}, ada us l = true → ∀ (j : Nat) (u : Value) (a : AV), us[j]? = some u → l[j]? = some a → ao4 u a
 | [], _, _, j, u, a, h, _ => by simp at h
 | _ :: _, [], _, j, u, a, _, h => by simp at h
 | u' :: us, a' :: l, h, j, u, a, h1, h2 => by
  simp only [ada, Bool.and_eq_true] at h
  cases j with
  | zero => simp only [List.getElem?_cons_zero, Option.some.injEq] at h1 h2; subst h1; subst h2; exact anc h.1
  | succ j => exact afw h.2 j u a (by simpa using h1) (by simpa using h2)
theorem adv {P : Program} {S : Nat} : ∀ {F : List Field} {fs : List (Nat × Nat)}, aa5 P S F fs = true → fs = F.map (fun f => (f.offset, f.type)) ∧ ∀ f ∈ F, ∃ fi, P.info? f.type = some fi ∧ 0 < fi.size ∧ f.offset + fi.size ≤ S
 | [], [], _ => ⟨rfl, fun f hf => by cases hf⟩
 | [], _ :: _, h => by cases h
 | _ :: _, [], h => by cases h
 | f :: F, (o, t) :: fs, h => by
  simp only [aa5, Bool.and_eq_true] at h
  obtain ⟨⟨⟨h1, h2⟩, h3⟩, h4⟩ := h
  obtain ⟨k1, k2⟩ := adv h4
  refine ⟨?_, fun g hg => ?_⟩
  ·rw [List.map_cons, ← k1, Nat.eq_of_beq_eq_true h1, Nat.eq_of_beq_eq_true h2]
  ·rcases List.mem_cons.1 hg with rfl | hg
   ·split at h3
    ·rename_i i hi
     simp only [Bool.and_eq_true] at h3
     exact ⟨i, hi, by simpa using h3.1, by simpa using h3.2⟩
    ·cases h3
   ·exact k2 g hg
theorem av8 {P : Program} {t : Nat} {ti : TI} (h : ap3 P t ti = true) : ao5 P t ti := by
 unfold ap3 at h
 split at h
 ·cases h
 ·rename_i i hi
  split at h
  ·cases h
  ·rename_i z hz
   simp only [Bool.and_eq_true] at h
   obtain ⟨⟨⟨⟨⟨⟨h1, h2⟩, h3⟩, h4⟩, h5⟩, h6⟩, h7⟩ := h
   refine ⟨⟨i, z, hi, Nat.eq_of_beq_eq_true h1, Nat.eq_of_beq_eq_true h2, hz, Nat.eq_of_beq_eq_true h3, Nat.eq_of_beq_eq_true h4, fun j u a hu ha => afw h5 j u a (by simpa using hu) ha⟩, by simpa using h6, ?_⟩
   unfold aok at h7
   obtain ⟨k, sz, by_, ze⟩ := ti
   simp only at h7 ⊢
   split at h7 <;> rename_i hu
   ·exact ⟨hu, Nat.eq_of_beq_eq_true h7⟩
   ·simp only [Bool.and_eq_true] at h7
    obtain rfl := ac0 h7.1
    exact ⟨hu, Nat.eq_of_beq_eq_true h7.2⟩
   ·exact ⟨hu, Nat.eq_of_beq_eq_true h7⟩
   ·simp only [Bool.and_eq_true] at h7
    obtain rfl := Nat.eq_of_beq_eq_true h7.1.1
    refine ⟨⟨hu, fun ei he => ?_⟩, Nat.eq_of_beq_eq_true h7.1.2⟩
    have h8 := h7.2
    rw [he] at h8
    simpa using h8
   ·obtain ⟨k1, k2⟩ := adv h7
    exact ⟨_, hu, k1, k2⟩
   ·exact ⟨⟨_, _, _, hu⟩, Nat.eq_of_beq_eq_true h7⟩
   ·trivial
   ·simp only [Bool.and_eq_true] at h7
    obtain rfl := Nat.eq_of_beq_eq_true h7.1
    obtain rfl := Nat.eq_of_beq_eq_true h7.2
    exact hu
   ·cases h7
def ab9 (P : Program) (T : Nat → Option TI) : Nat → Bool
 | 0 => true
 | n + 1 => (match T n with | some ti => ap3 P n ti | none => true) && ab9 P T n
theorem ait {P : Program} {T : Nat → Option TI} : ∀ {n : Nat}, ab9 P T n = true → ∀ t ti, t < n → T t = some ti → ao5 P t ti
 | 0, _, t, ti, h, _ => by omega
 | n + 1, h, t, ti, hlt, ht => by
  simp only [ab9, Bool.and_eq_true] at h
  by_cases hn : t = n
  ·subst hn
   rw [ht] at h
   exact av8 h.1
  ·exact ait h.2 t ti (by omega) ht
theorem al3 {P : Program} {T : Nat → Option TI} {n : Nat} {τ : Tab} (hτ : τ.T = fun t => aa (Nat.blt t n) (T t) none) (h : ab9 P T n = true) : db P τ := fun t ti ht => by
 rw [hτ] at ht
 have ht : aa (Nat.blt t n) (T t) none = some ti := ht
 cases hb : Nat.blt t n with
 | false => rw [hb] at ht; cases ht
 | true => rw [hb] at ht; exact ait h t ti (by simpa using hb) ht
theorem av9 {P : Program} {S : Sys} (hS : aa4 P S) {f : Nat} {l : List AV} {r : AV} (h : ag S f l = some r) : PC P S.τ f l r := by
 rw [ph] at h
 obtain ⟨n, hn⟩ := agk.1 h
 exact ab8 hS n f l r hn
theorem ig {w W : World} (c : Cls) (h : Below w.heap.size w W) : Ext w.heap.size w c W (fun b => if b < w.heap.size then c b else .frz) :=
 ⟨h.os, h.tape, h.output, h.size, fun b hb _ => ⟨h.block b hb, by simp [hb]⟩, fun b i v hv hs => by
  have hb := re hv
  exact ⟨by rw [o1 (w := w) (h.block b hb)]; exact hv, by unfold dw at *; simpa [hb] using hs⟩⟩
theorem ajs {P : Program} {τ : Tab} {f : Nat} {l : List AV} {r : AV} {fn : Func} {cd : Code} (hf : P.funcs[f]? = some fn) (hb : fn.body = some cd) (hnm : ¬ fn.name = "runtime.NumGoroutine")
  (h : ∀ (w : World) (c : Cls) (vs : Array Value), GOK τ w c → vs.size = l.length → (∀ (i : Nat) (v : Value) (a : AV), vs[i]? = some v → l[i]? = some a → td w c v a) →
   Calls P f vs w fun e w' => ∃ v, e = .returned v ∧ Below w.heap.size w w' ∧ ∀ c', abt w.heap.size w' c' v r) : PC P τ f l r := by
 intro w c vs hG hsz ha
 refine .inl ⟨by simp [callFunc, hf, hnm, hb], (h w c vs hG hsz ha).mono fun e w' ⟨v, he, hB, hr⟩ => ⟨v, he, _, ig c hB, hr _⟩⟩
theorem adb {w : World} {c : Cls} {vs : Array Value} {x : AV} (hsz : vs.size = [x].length) (ha : ∀ (i : Nat) (v : Value) (a : AV), vs[i]? = some v → [x][i]? = some a → td w c v a) : ∃ v, vs = #[v] ∧ td w c v x := by
 obtain ⟨l⟩ := vs
 match l, hsz with
 | [v], _ => exact ⟨v, rfl, ha 0 v x rfl rfl⟩
theorem ay3 {w : World} {c : Cls} {v : Value} {k : IntKind} {n : Int} (h : td w c v (.int k n)) : v = .int k n := by rcases h with h | h <;> exact fb h
theorem arg_str {w : World} {c : Cls} {v : Value} {s : List UInt8} (h : td w c v (.str s)) : ∃ b : ByteArray, v = .string b ∧ b.data.toList = s := by rcases h with h | h <;> exact gu h
theorem awa {w : World} {c : Cls} {g : Nat} (hg : τ.G g = some xl) (hG : GOK τ w c) : w.rangeAt g 0 Nam.xi.toList := by
 obtain ⟨b, o, h1, _, f, h2, _, h4⟩ := xh (hG g _ hg)
 simp only [Nat.add_zero, Value.pointer.injEq, Option.some.injEq, Addr.mk.injEq, and_true] at h1
 obtain ⟨rfl, rfl⟩ := h1
 intro j v hv
 have hj : j < 9 := by have := (List.getElem?_eq_some_iff.1 hv).1; simpa [Nam.xi] using this
 rw [h2 j hj]
 obtain ⟨a, ha⟩ : ∃ a, xl[j]? = some a := ⟨_, List.getElem?_eq_getElem (by simpa [xl] using hj)⟩
 have h5 := h4 j a ha
 have key : ∀ (s : List UInt8) (b : ByteArray), b.data.toList = s → Rep w c (f j) (.str s) → f j = .string b := fun s b hb hr => by
  obtain ⟨b', e1, e2⟩ := gu hr
  rw [e1]
  congr 1
  apply ByteArray.ext
  apply Array.ext'
  rw [e2, hb]
 rcases (by omega : j = 0 ∨ j = 1 ∨ j = 2 ∨ j = 3 ∨ j = 4 ∨ j = 5 ∨ j = 6 ∨ j = 7 ∨ j = 8) with rfl | rfl | rfl | rfl | rfl | rfl | rfl | rfl | rfl
 all_goals (simp only [xl, List.getElem?_cons_zero, List.getElem?_cons_succ, Option.some.injEq] at ha; subst ha; simp [Nam.xi, Nam.word] at hv; subst hv; congr 1; exact key _ _ rfl h5)
theorem asw (l : List AV) (r : AV) (h : aap l = some r) : PC Tryz.prog τ 183 l r := by
 unfold aap at h
 split at h
 ·rename_i n
  split at h
  ·rename_i hn
   cases h
   refine ajs Tryz.func183 rfl (by decide +kernel) fun w c vs hG hsz ha => ?_
   obtain ⟨v, rfl, hv⟩ := adb hsz ha
   obtain rfl := ay3 hv
   exact (NT.auw n w hn).mono fun e w' ⟨he, hB⟩ => ⟨_, he, hB, fun c' => Rep.str _⟩
  ·cases h
 ·cases h
theorem ane (l : List AV) (r : AV) (h : vt l = some r) : PC Tryz.prog τ 101 l r := by
 unfold vt at h
 split at h
 ·cases h
  refine ajs Tryz.func101 rfl (by decide +kernel) fun w c vs hG hsz ha => ?_
  obtain ⟨v, rfl, hv⟩ := adb hsz ha
  obtain ⟨b, rfl, rfl⟩ := arg_str hv
  exact (Nam.ark b w (awa (g := 0) rfl hG)).mono fun e w' ⟨he, hB⟩ => ⟨_, he, hB, fun c' => Rep.bool _⟩
 ·cases h
theorem aa6 {w : World} {c : Cls} {vs : Array Value} {x y : AV} (hsz : vs.size = [x, y].length) (ha : ∀ (i : Nat) (v : Value) (a : AV), vs[i]? = some v → [x, y][i]? = some a → td w c v a) : ∃ v u, vs = #[v, u] ∧ td w c v x ∧ td w c u y := by
 obtain ⟨l⟩ := vs
 match l, hsz with
 | [v, u], _ => exact ⟨v, u, rfl, ha 0 v x rfl rfl, ha 1 u y rfl rfl⟩
theorem a6c (l : List AV) (r : AV) (h : apa l = some r) : PC Tryz.prog τ 286 l r := by
 unfold apa at h
 split at h
 ·cases h
  intro w c vs hG hsz ha
  obtain ⟨v, u, rfl, hv, hu⟩ := aa6 hsz ha
  obtain ⟨a, rfl, rfl⟩ := arg_str hv
  obtain ⟨b, rfl, rfl⟩ := arg_str hu
  refine .inr ⟨_, w, ?_, c, Ext.refl _ _ _, Rep.int _ _⟩
  rw [run_callFunc_extern (e := Extern.BytealgCompare.compare) Tryz.func286 (by kernel_rfl) rfl (by kernel_rfl) (by kernel_rfl)]
  rw [Lib.run_compareString]
  rfl
 ·cases h
theorem a8m (f : Nat) (g : List AV → Option AV) (h : OO f = some g) (l : List AV) (r : AV) (hr : g l = some r) : PC Tryz.prog τ f l r := by
 by_cases h1 : f = 183
 ·subst h1
  cases (show OO 183 = some aap from rfl).symm.trans h
  exact asw l r hr
 by_cases h2 : f = 101
 ·subst h2
  cases (show OO 101 = some vt from rfl).symm.trans h
  exact ane l r hr
 by_cases h3 : f = 286
 ·subst h3
  cases (show OO 286 = some apa from rfl).symm.trans h
  exact a6c l r hr
 by_cases h4 : f = 78
 ·subst h4
  cases (show OO 78 = some jl from rfl).symm.trans h
  cases hr
 by_cases h5 : f = 195
 ·subst h5
  cases (show OO 195 = some jl from rfl).symm.trans h
  cases hr
 by_cases h6 : f = 22
 ·subst h6
  cases (show OO 22 = some jl from rfl).symm.trans h
  cases hr
 by_cases h7 : f = 107
 ·subst h7
  cases (show OO 107 = some jl from rfl).symm.trans h
  cases hr
 by_cases h8 : f = 186
 ·subst h8
  cases (show OO 186 = some jl from rfl).symm.trans h
  cases hr
 by_cases h9 : f = 100
 ·subst h9
  cases (show OO 100 = some jl from rfl).symm.trans h
  cases hr
 by_cases h10 : f = 13
 ·subst h10
  cases (show OO 13 = some jl from rfl).symm.trans h
  cases hr
 by_cases h11 : f = 19
 ·subst h11
  cases (show OO 19 = some jl from rfl).symm.trans h
  cases hr
 by_cases h12 : f = 31
 ·subst h12
  cases (show OO 31 = some jl from rfl).symm.trans h
  cases hr
 by_cases h13 : f = 72
 ·subst h13
  cases (show OO 72 = some jl from rfl).symm.trans h
  cases hr
 have e1 : Nat.beq f 183 = false := du h1
 have e2 : Nat.beq f 101 = false := du h2
 have e3 : Nat.beq f 286 = false := du h3
 have e4 : Nat.beq f 78 = false := du h4
 have e5 : Nat.beq f 195 = false := du h5
 have e6 : Nat.beq f 22 = false := du h6
 have e7 : Nat.beq f 107 = false := du h7
 have e8 : Nat.beq f 186 = false := du h8
 have e9 : Nat.beq f 100 = false := du h9
 have e10 : Nat.beq f 13 = false := du h10
 have e11 : Nat.beq f 19 = false := du h11
 have e12 : Nat.beq f 31 = false := du h12
 have e13 : Nat.beq f 72 = false := du h13
 have h0 : OO f = none := by
  unfold OO
  rw [e1, e2, e3, e4, e5, e6, e7, e8, e9, e10, e11, e12, e13]
  simp only [aa]
  repeat' split
  all_goals rfl
 rw [h0] at h; cases h
end Go.Proofs.YtmdimhcjogjcgaaGreatDoor.Abs
namespace Go.Proofs.YtmdimhcjogjcgaaGreatDoor.Abs
theorem a2x : ab9 Tryz.prog TT 331 = true := by kernel_rfl
theorem vz : aa4 Tryz.prog S := ⟨al3 rfl a2x, by kernel_rfl, a8m, fun f d h => by
 obtain ⟨fn, h1, h2⟩ := Option.bind_eq_some_iff.1 h
 exact ⟨fn, h1, h2⟩⟩
end Go.Proofs.YtmdimhcjogjcgaaGreatDoor.Abs
