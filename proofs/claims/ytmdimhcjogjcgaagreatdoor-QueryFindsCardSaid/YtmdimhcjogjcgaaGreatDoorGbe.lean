/- What is forgotten, what is shut. -/
import Derived.Test.YtmdimhcjogjcgaaGreatDoorGbd
import Derived.LoopN
import Derived.KernelRfl
import Derived.Test.YtmdimhcjogjcgaaGreatDoorGaj
import Derived.Test.YtmdimhcjogjcgaaGreatDoorGad
set_option linter.all false
set_option maxRecDepth 100000
noncomputable section
namespace Go.Proofs.YtmdimhcjogjcgaaGreatDoor.Abs
open Go.RowKit
theorem aeo : ∀ (m : List (Nat × AV)) (S j : Nat), ovr (yg S m) j = if bu S j = true then none else (match ovr m j with | some (.own z l) => some (.own z l) | _ => none)
 | [], S, j => by simp [yg, ovr]
 | (o, y) :: r, S, j => by
  have hbit : bu (S ||| 2 ^ o) j = (bu S j || decide (o = j)) := by
   rw [rj]
   congr 1
   rw [qs, Nat.testBit_two_pow]
  have hplain : (∀ z l, y ≠ .own z l) → ovr (yg (S ||| 2 ^ o) r) j = if bu S j = true then none else (match ovr ((o, y) :: r) j with | some (.own z l) => some (.own z l) | _ => none) := fun hn => by
   rw [aeo r, hbit, tn]
   by_cases hj : o = j
   ·subst hj
    simp only [decide_true, Bool.or_true, if_true]
    split
    ·rfl
    ·split
     ·rename_i z l hh; cases hh; exact absurd rfl (hn z l)
     ·rfl
   ·simp [hj]
  cases y <;> first
   | exact hplain (by intro z l h; cases h)
   | skip
  rename_i z l
  show ovr (ag (bu S o) (yg S r) ((o, .own z l) :: yg (S ||| 2 ^ o) r)) j = _
  cases hS : bu S o with
  | true =>
   show ovr (yg S r) j = _
   rw [aeo r, tn]
   by_cases hj : o = j
   ·subst hj; simp [hS]
   ·simp [hj]
  | false =>
   show ovr ((o, .own z l) :: yg (S ||| 2 ^ o) r) j = _
   rw [tn, aeo r, hbit, tn]
   by_cases hj : o = j
   ·subst hj; simp [hS]
   ·simp [hj]
theorem agt : ∀ (m : List (Nat × AV)) (j : Nat), (∀ z l, ovr m j ≠ some (.own z l)) → ovr (aar m) j = ovr m j
  | [], j, _ => rfl
  | (o, y) :: r, j, h => by
    rw [tn] at h
    have hrest : o ≠ j → ovr (aar r) j = ovr r j := fun hj => agt r j (by rw [if_neg hj] at h; exact h)
    cases y <;> first
      | (show ovr ((o, _) :: aar r) j = _
         rw [tn, tn]
         by_cases hj : o = j
         · rw [if_pos hj, if_pos hj]
         · rw [if_neg hj, if_neg hj]; exact hrest hj)
      | skip
    rename_i z l
    show ovr (aar r) j = _
    by_cases hj : o = j
    · rw [if_pos hj] at h; exact absurd rfl (h z l)
    · rw [tn, if_neg hj]; exact hrest hj
section
variable {P : Program} {τ : Tab} {B : Nat} {wB : World} {cB c : Cls} {a : Act} {w : World} {sz : Nat} {e : Env}
theorem xt.norm {d : Nat} {u : Value} {z : Nat} {cs : List AV} {m : List (Nat × AV)} (h : xt B w c d u z cs m) : xt B w c d u z (patch cs (aar m)) (ari m) := by
 obtain ⟨b, vs, ty, h1, h2, h3, h4, h5, h6, h7, h8, h9⟩ := h
 have hov : ∀ j, ovr (ari m) j = (match ovr m j with | some (.own z l) => some (.own z l) | _ => none) := fun j => by
  unfold ari; rw [aeo, tp]; simp
 refine ⟨b, vs, ty, h1, h2, h3, h4, h5, by rw [aav, h6], fun j x u p1 p2 p3 => ?_, fun j x u p1 p2 => ?_, fun j x p1 => ?_⟩
 ·rw [hov] at p1
  have hno : ∀ z l, ovr m j ≠ some (.own z l) := fun z l hh => by rw [hh] at p1; cases p1
  rcases ad8 _ _ _ _ p2 with ⟨y, q1, rfl⟩ | ⟨q1, q2⟩
  ·rw [agt m j hno] at q1
   exact (h8 j y u q1 p3).frz
  ·rw [agt m j hno] at q1
   exact h7 j x u q1 q2 p3
 ·rw [hov] at p1
  split at p1
  ·rename_i z' l hh; cases p1; exact h8 j _ u hh p2
  ·cases p1
 ·rw [hov] at p1
  split at p1
  ·rename_i z' l hh; cases p1; exact h9 j _ hh
  ·cases p1
theorem cr.norm {T : Nat → Value} {e' : Env} (h : cr τ B w c T e) (he : ∀ x, e' x = .undef ∨ e' x = cn (e x)) : cr τ B w c T e' := by
 refine ⟨h.base, h.g, fun d => ?_⟩
 rcases he d with hd | hd
 ·rw [hd]; trivial
 ·rw [hd]
  have := h.slot d
  cases hed : e d <;> rw [hed] at this <;> first
   | exact this
   | exact this.1
   | trivial
   | exact xt.norm this
theorem a8u {L : List Nat} {g : Nat → AV} (x : Nat) : look (L.map fun i => (i, g i)) x = .undef ∨ look (L.map fun i => (i, g i)) x = g x := by
 induction L with
 | nil => exact .inl rfl
 | cons i L ih =>
  simp only [List.map_cons, look]
  by_cases hx : x = i
  ·subst hx; exact .inr (by simp [ag])
  ·rw [iv hx]; exact ih
theorem cr.forget {T : Nat → Value} (h : cr τ B w c T e) (L : List Nat) : cr τ B w c T (Abs.forget L e) := h.norm fun x => a8u x
theorem St.yj {ann : Nat → Option (List Nat)} {cd : Code} (h : St τ B wB cB sz e a w) : St τ B wB cB sz (Abs.yj ann cd e) a w := by
 obtain ⟨c, h1, h2, h3⟩ := h
 refine ⟨c, h1, ?_, h3⟩
 unfold Abs.yj
 split
 ·split
  ·exact h2.forget _
  ·exact h2
 ·exact h2
theorem St.fgJ {ann : Nat → Option (List Nat)} {cd : Code} (h : St τ B wB cB sz e a w) : St τ B wB cB sz (Abs.fgJ ann cd e) a w := by
 obtain ⟨c, h1, h2, h3⟩ := h
 refine ⟨c, h1, ?_, h3⟩
 unfold Abs.fgJ
 split
 ·split
  ·exact h2.forget _
  ·exact h2
 ·exact h2
def frB (B : Nat) (c : Cls) (s : Nat) : Cls := fun b => match c b with
 | .box d => if B ≤ b ∧ d = s then .frz else .box d
 | k => k
theorem a8v {s b i : Nat} (h : ga c b i) : ga (frB B c s) b i := by
 unfold ga frB at *
 cases hk : c b with
 | frz => trivial
 | own st g => rw [hk] at h; exact h
 | box d => rw [hk] at h; exact h.elim
theorem ajc (w : World) (s : Nat) : Ext B w c w (frB B c s) := by
 refine ⟨rfl, rfl, rfl, Nat.le_refl _, fun b hb _ => ⟨rfl, ?_⟩, fun b i v hv hs => ⟨hv, a8v hs⟩⟩
 unfold frB
 cases hk : c b with
 | frz => rfl
 | own st g => rfl
 | box d => simp; omega
theorem a8w (e : Env) (s : Nat) : Abs.set e s (e s) = e := by
 funext x
 by_cases h : x = s
 ·subst h; rw [ej]
 ·rw [ia _ _ h]
theorem St.bi0 (h : St τ B wB cB sz e a w) (s : Nat) : St τ B wB cB sz (Abs.set e s (ark (e s))) a w := by
 by_cases hb : ∃ z cs m, e s = .boxv z cs m
 ·obtain ⟨z, cs, m, hes⟩ := hb
  obtain ⟨c, h1, h2, h3⟩ := h
  have hbox := h2.slot s
  rw [hes] at hbox
  obtain ⟨b, vs, ty, q1, q2, q3, q4, q5, q6, q7, q8, q9⟩ := hbox
  have hU : cr τ B w c (bj a) (Abs.set e s .undef) := h2.qv fun x => by
   by_cases hx : x = s
   ·subst hx; rw [ej]; exact .undef _
   ·rw [ia _ _ hx]; exact .refl _
  have hch : Chg (Abs.set e s .undef) w c w (frB B c s) := fun b' _ hl => by
   refine ⟨rfl, ?_⟩
   unfold frB
   cases hk : c b' with
   | frz => rfl
   | own st g => rfl
   | box d =>
    rw [hk] at hl
    obtain ⟨z', cs', m', hl⟩ := hl
    have hds : d ≠ s := fun hh => by subst hh; rw [ej] at hl; cases hl
    simp [hds]
  have hs' := hU.change (ajc w s) hch
  refine ⟨frB B c s, h1.trans (ajc w s), ?_, h3⟩
  have hrep : Rep w (frB B c s) (bj a s) (.eptr z (patch cs m) 0) := by
   rw [q1]
   have := Rep.eptr (w := w) (c := frB B c s) b 0 z (patch cs m) 0 (fun j => vs.getD j undef) (by rw [aav, q6]) (fun j hj => by rw [cell_of q3, Nat.zero_add]; simp [q5, hj]) (fun j hj => by unfold ga frB; simp [q4, q2]) (fun j x hx => by
    have hj : j < z := by have := (List.getElem?_eq_some_iff.1 hx).1; rw [aav, q6] at this; exact this
    have hvj : vs[j]? = some (vs.getD j undef) := by simp [q5, hj]
    rcases ad8 _ _ _ _ hx with ⟨y, p1, rfl⟩ | ⟨p1, p2⟩
    ·exact (q8 j y _ p1 hvj).frz.ext (ajc (B := B) w s)
    ·exact (q7 j x _ p1 p2 hvj).ext (ajc (B := B) w s))
   exact this
  have := hs'.again (d := s) (v := .eptr z (patch cs m) 0) (e' := Abs.set (Abs.set e s .undef) s (.eptr z (patch cs m) 0)) hrep rfl rfl
  have he : Abs.set (Abs.set e s .undef) s (.eptr z (patch cs m) 0) = Abs.set e s (ark (e s)) := by
   funext x
   by_cases hx : x = s
   ·subst hx; rw [ej, ej, hes]; rfl
   ·rw [ia _ _ hx, ia _ _ hx, ia _ _ hx]
  rw [← he]; exact this
 ·have : ark (e s) = e s := by
   cases hes : e s <;> first | rfl | exact absurd ⟨_, _, _, hes⟩ hb
  rw [this, a8w]; exact h
theorem St.ue : ∀ (l : List Operand) (e : Env), St τ B wB cB sz e a w → St τ B wB cB sz (Abs.ue e l) a w
 | [], e, h => h
 | .tmp s :: l, e, h => St.ue l _ (h.bi0 s)
 | .const _ :: l, e, h => St.ue l _ h
 | .global _ :: l, e, h => St.ue l _ h
 | .func _ :: l, e, h => St.ue l _ h
theorem St.rp : ∀ (l : List Oper) (e : Env), St τ B wB cB sz e a w → St τ B wB cB sz (Abs.rp e l) a w
 | [], e, h => h
 | o :: l, e, h => by
  unfold Abs.rp
  split
  ·exact St.rp l _ (St.ue _ _ h)
  ·exact St.rp l _ h
end
end Go.Proofs.YtmdimhcjogjcgaaGreatDoor.Abs
namespace Go.Proofs.YtmdimhcjogjcgaaGreatDoor.Abs
open Go.RowKit
def bgb : Ex → Exit
 | .normal => .normal
 | .exit id => .exit id
 | .ret => .ret
def KOK (τ : Tab) (B : Nat) (wB : World) (cB : Cls) (sz : Nat) (K : ji) (r : AV) (Q : Exit → Act → World → Prop) : Prop := ∀ x e a w, K x e = some r → St τ B wB cB sz e a w → Q (bgb x) a w
section
variable {P : Program} {τ : Tab} {B : Nat} {wB : World} {cB : Cls} {sz n N : Nat} {call : Nat → List AV → Option AV} {ann : Nat → Option (List Nat)} {res : List Nat}
theorem az6 (hm : P.follows .mixedOrders = true) (hT : ey P τ) (hcall : ∀ f l r, call f l = some r → PC P τ f l r) {id : Nat} {ops : Array Oper} {draw : Bool} {e : Env} {a : Act} {w : World} {α : Type} {k : Env → Option α} {r : α} {Q : Exit → Act → World → Prop}
  (hsz : ∀ o ∈ ops.toList, ∀ d, o.dst = some d → d < sz) (h : yk τ call res ops.toList draw e k = some r) (hst : St τ B wB cB sz e a w) (hQ : ∀ e' a' w', k e' = some r → St τ B wB cB sz e' a' w' → Q .normal a' w') :
  (Code.region id ops draw).wp P Q a w := by
 have hst' := St.rp ops.toList _ (hst.qv fun x => ba7 (e x) : St τ B wB cB sz (clean e) a w)
 cases draw with
 | false =>
  refine wp_region ?_
  have := aon hT hcall rfl hsz _ ops.toList _ 0 a w rfl h hst' hQ
  rw [List.range_eq_range']
  simpa using this
 | true =>
  unfold yk at h
  simp only at h
  split at h
  ·rename_i hh t W hsp
   exact a8t hm hT hcall hsz hsp h hst' hQ
  ·cases h
theorem zt (hm : P.follows .mixedOrders = true) (hT : ey P τ) (hcall : ∀ f l r, call f l = some r → PC P τ f l r) (hn : n ≤ sz) {r : AV} : ∀ (cd : Code) (e : Env) (K : ji) (Q : Exit → Act → World → Prop) (a : Act) (w : World), tu n cd = true →
  run τ ann call res (iter N) cd e K = some r → St τ B wB cB sz e a w → KOK τ B wB cB sz K r Q → cd.wp P Q a w
 | .skip, e, K, Q, a, w, _, h, hst, hK => wp_skip (hK .normal e a w h hst)
 | .region id ops draw, e, K, Q, a, w, hd, h, hst, hK => by
  refine az6 hm hT hcall (fun o ho d hdd => ?_) h hst fun e' a' w' h' hst' => hK .normal e' a' w' h' hst'
  simp only [tu, List.all_eq_true] at hd
  have := hd o ho
  rw [hdd] at this
  have : d < n := by simpa using this
  exact Nat.lt_of_lt_of_le this hn
 | .seq x y, e, K, Q, a, w, hd, h, hst, hK => by
  simp only [tu, Bool.and_eq_true] at hd
  refine wp_seq (zt hm hT hcall hn x e _ _ a w hd.1 h hst fun z e' a' w' h' hst' => ?_)
  cases z with
  | normal => exact zt hm hT hcall hn y _ K Q a' w' hd.2 h' hst'.fgJ hK
  | exit j => exact hK (.exit j) e' a' w' h' hst'
  | ret => exact hK .ret e' a' w' h' hst'
 | .cond q x y, e, K, Q, a, w, hd, h, hst, hK => by
  simp only [tu, Bool.and_eq_true] at hd
  obtain ⟨b1, hb, g⟩ := dm (show ff e q _ = some r from h)
  obtain ⟨t, e1, g⟩ := afa g
  subst e1
  obtain ⟨c, h1, h2, h3⟩ := hst
  obtain ⟨d, hq⟩ := hb.slot h2
  have hv : a.eval q = .bool t := j8 hq
  rcases awx g with ⟨rfl, g⟩ | ⟨rfl, g⟩
  ·exact wp_cond_true hv (zt hm hT hcall hn x e K Q a w hd.1 g ⟨c, h1, h2, h3⟩ hK)
  ·exact wp_cond_false hv (zt hm hT hcall hn y e K Q a w hd.2 g ⟨c, h1, h2, h3⟩ hK)
 | .block id x, e, K, Q, a, w, hd, h, hst, hK => by
  refine wp_block (zt hm hT hcall hn x e _ _ a w hd h hst fun z e' a' w' h' hst' => ?_)
  cases z with
  | normal => exact hK .normal e' a' w' h' hst'
  | exit j =>
   have h' : ag (Nat.beq j id) (K .normal e') (K (.exit j) e') = some r := h'
   show if j = id then Q .normal a' w' else Q (.exit j) a' w'
   by_cases hj : j = id
   ·subst hj
    rw [ans] at h'
    rw [if_pos rfl]; exact hK .normal e' a' w' h' hst'
   ·rw [iv hj] at h'
    rw [if_neg hj]; exact hK (.exit j) e' a' w' h' hst'
  | ret => exact hK .ret e' a' w' h' hst'
 | .loop x, e, K, Q, a, w, hd, h, hst, hK => by
  have key : ∀ (m : Nat) (e : Env) (a : Act) (w : World), iter m (yj ann x) (run τ ann call res (iter N) x) K e = some r → St τ B wB cB sz e a w → Code.rounds P x Q m a w := by
   intro m
   induction m with
   | zero => intro e a w h _; cases h
   | succ m ih =>
    intro e a w h hst
    refine zt hm hT hcall hn x e _ _ a w hd h hst fun z e' a' w' h' hst' => ?_
    cases z with
    | normal => exact ih _ a' w' h' hst'.yj
    | exit j => exact hK (.exit j) e' a' w' h' hst'
    | ret => exact hK .ret e' a' w' h' hst'
  exact wp_loop_rounds N (key N _ a w h hst.yj)
 | .exit id, e, K, Q, a, w, _, h, hst, hK => wp_exit (hK (.exit id) e a w h hst)
 | .ret, e, K, Q, a, w, _, h, hst, hK => wp_ret (hK .ret e a w h hst)
 | .rangeFunc .., e, K, Q, a, w, _, h, _, _ => by cases h
 | .scope .., e, K, Q, a, w, _, h, _, _ => by cases h
 | .label .., e, K, Q, a, w, _, h, _, _ => by cases h
 | .goto .., e, K, Q, a, w, _, h, _, _ => by cases h
 | .refuse .., e, K, Q, a, w, _, h, _, _ => by cases h
end
end Go.Proofs.YtmdimhcjogjcgaaGreatDoor.Abs
namespace Go.Proofs.YtmdimhcjogjcgaaGreatDoor.Abs
open Go.RowKit
def afl : ResultVar → ld
 | .tmp t => .slot t
 | .cell s _ => .cell s 0
def adm (B : Nat) (c : Cls) (hs : List ld) : Cls := fun b => match c b with
 | .own st h => if B ≤ b then (match hs.findIdx? (fun g => decide (g = h)) with | some i => .own st (.ret i) | none => .own st h) else .own st h
 | k => k
section
variable {P : Program} {τ : Tab} {B : Nat} {w : World} {c : Cls} {a : Act} {e : Env}
theorem a4e {hs : List ld} (b i : Nat) : ga (adm B c hs) b i ↔ ga c b i := by
 unfold ga adm
 cases hk : c b with
 | frz => simp
 | box => simp
 | own st g =>
  by_cases hB : B ≤ b
  ·simp only [hB, if_true]
   cases hs.findIdx? (fun h => decide (h = g)) <;> exact Iff.rfl
  ·simp [hB]
theorem aky (B : Nat) (w : World) (c : Cls) (hs : List ld) : Ext B w c w (adm B c hs) := by
 refine ⟨rfl, rfl, rfl, Nat.le_refl _, fun b hb _ => ⟨rfl, ?_⟩, fun b i v hv hst => ⟨hv, (a4e b i).2 hst⟩⟩
 unfold adm
 cases hk : c b with
 | frz => rfl
 | box => rfl
 | own st g => simp [Nat.not_le.2 hb]
theorem lg.adm {hs : List ld} (hnd : hs.Nodup) {i : Nat} {h : ld} {u : Value} {x : AV} (hi : hs[i]? = some h) (hp : lg B w c h u x) : lg B w (Abs.adm B c hs) (.ret i) u x := by
 rcases hp.either with ⟨sz, l, rfl, ho⟩ | hp
 ·refine ⟨ho.1.ext (aky B w c hs), ho.2.imp id ?_⟩
  rintro ⟨b, cap, vs, ty, h1, h2, h3, h4, h5, h6, h7⟩
  refine ⟨b, cap, vs, ty, h1, h2, h3, h4, h5, h6, ?_⟩
  have hf : hs.findIdx? (fun g => decide (g = h)) = some i := by
   rw [List.findIdx?_eq_some_iff_getElem]
   obtain ⟨hl, hg⟩ := List.getElem?_eq_some_iff.1 hi
   refine ⟨hl, by simp [hg], fun j hj => ?_⟩
   simp only [Bool.not_eq_true, decide_eq_false_iff_not]
   intro hh
   exact (List.pairwise_iff_getElem.1 hnd) j i (by omega) hl hj (hh.trans hg.symm)
  unfold Abs.adm
  simp only [h7, h2, if_true, hf]
 ·have := hp.ext (aky B w c hs)
  cases x <;> first | exact this.elim | exact this
theorem bch (hT : ey P τ) (hs : cr τ B w c (bj a) e) {rv : ResultVar} {x : AV} (h : ahd τ e rv some = some x) :
  ∃ u, (match rv with | .tmp t => pure (a.tmps.getD t undef) | .cell s t => do loadVar t (← asAddr (a.tmps.getD s undef)) : Sem Value).run P w = .ok u w ∧ lg B w c (afl rv) u x := by
 cases rv with
 | tmp t =>
  refine ⟨bj a t, rfl, ?_⟩
  obtain ⟨hne, h⟩ := acu (show nz (e t) _ = some x from h)
  have hst := hs.slot t
  cases het : e t <;> rw [het] at h hst <;> first
   | exact absurd het hne
   | (cases h; exact hst)
   | (cases h; exact hst.1)
   | cases h
 | cell s t =>
  unfold ahd at h
  simp only at h
  split at h
  ·rename_i z cs m hes
   have hbox := hs.slot s
   rw [hes] at hbox
   split at h
   ·rename_i fs sz bb zz hti
    obtain ⟨hz, h⟩ := cw h
    have hx : vz τ t s z cs m 0 some = some x := by
     unfold vz
     rw [hti]
     simp only [hz, Nat.beq]
     exact h
    obtain ⟨b, h1, u, h2, h3⟩ := aex (d := 0) hT hbox hes hx
    cases h
    refine ⟨u, ?_, h3⟩
    have h1' : a.tmps.getD s undef = .pointer (some ⟨b, 0, none⟩) := h1
    simp [h1', asAddr, h2]
   ·cases h
   ·rename_i ti hns hna hti
    obtain ⟨hk, h⟩ := cw h
    obtain ⟨y, hy, h⟩ := afz h
    obtain ⟨hne, h⟩ := acu h
    cases h
    obtain ⟨b, vs, ty, h1, h2, h3, h4⟩ := hbox
    obtain ⟨u, q1, q2⟩ := aus (h1 ▸ ⟨b, vs, ty, h1, h2, h3, h4⟩ : xt B w c s (.pointer (some ⟨b, 0, none⟩)) z cs m) ⟨ty, h3⟩ hy
    refine ⟨u, ?_, ?_⟩
    ·have h1' : a.tmps.getD s undef = .pointer (some ⟨b, 0, none⟩) := h1
     have ha := wq (w := w) hT hti
     have hf : (isAgg t).run P w = .ok false w := by
      obtain ⟨k, sz, bb, zz⟩ := ti
      cases k <;> first
       | exact ha
       | exact (hns _ _ _ _ rfl).elim
       | exact (hna _ _ _ _ _ rfl).elim
       | cases hk
     have hl : w.cell? ⟨b, 0, none⟩ = some u := by rw [cell_of h3]; exact q1
     have hl2 : (loadVar t ⟨b, 0, none⟩).run P w = .ok u w := by
      simp only [loadVar, Sem.run_bind, hf, Result.andThen_ok, Bool.false_eq_true, if_false]
      exact xk hl
     simp only [h1', asAddr, Sem.run_bind, Sem.run_pure, Result.andThen_ok]
     exact hl2
    ·cases x <;> first
      | exact q2
      | exact absurd rfl hne
      | cases q2
   ·cases h
  ·cases h
theorem amx {τ : Tab} {e : Env} : ∀ {rs : List ResultVar} {k : List AV → Option AV} {r : AV}, acn τ e rs k = some r → ∃ l, l.length = rs.length ∧ (∀ (i : Nat) (rv : ResultVar) (x : AV), rs[i]? = some rv → l[i]? = some x → ahd τ e rv some = some x) ∧ k l = some r
 | [], k, r, h => ⟨[], rfl, fun i rv x hx => by simp at hx, h⟩
 | rv :: rs, k, r, h => by
  have hn : ∀ (k : AV → Option AV), ahd τ e rv k = (ahd τ e rv some).bind k := fun k => by
   cases rv with
   | tmp t => show nz (e t) _ = (nz (e t) _).bind k; generalize e t = v; cases v <;> rfl
   | cell s t =>
    unfold ahd
    simp only
    split
    ·split
     ·simp only [fl]; rfl
     ·rfl
     ·simp only [fl, alj, ar6]; rfl
     ·rfl
    ·rfl
  have h : ahd τ e rv (fun a => acn τ e rs fun l => k (a :: l)) = some r := h
  rw [hn] at h
  obtain ⟨x, h1, h2⟩ := Option.bind_eq_some_iff.1 h
  obtain ⟨l, q1, q2, q3⟩ := amx h2
  refine ⟨x :: l, by simp [q1], fun i rv' y hy hy' => ?_, q3⟩
  cases i with
  | zero => simp only [List.getElem?_cons_zero, Option.some.injEq] at hy hy'; subst hy; subst hy'; exact h1
  | succ i => simp only [List.getElem?_cons_succ] at hy hy'; exact q2 i rv' y hy hy'
theorem aj0 : ∀ {l : List Nat}, ae8 l = true → l.Nodup
 | [], _ => by simp
 | x :: r, h => by
  simp only [ae8, Bool.and_eq_true] at h
  rw [List.nodup_cons]
  refine ⟨fun hm => ?_, aj0 h.2⟩
  have h1 : (r.any fun y => Nat.beq x y) = false := by simpa using h.1
  rw [List.any_eq_false] at h1
  exact absurd (by simp) (h1 x hm)
theorem aj1 : ∀ {rs : List ResultVar}, (rs.map ahh).Nodup → (rs.map afl).Nodup
 | [], _ => by simp
 | rv :: rs, h => by
  rw [List.map_cons, List.nodup_cons] at h ⊢
  refine ⟨fun hm => h.1 ?_, aj1 h.2⟩
  obtain ⟨rv', h1, h2⟩ := List.mem_map.1 hm
  refine List.mem_map.2 ⟨rv', h1, ?_⟩
  cases rv <;> cases rv' <;> simp [afl, ahh] at h2 ⊢ <;> rw [h2]
theorem au8 {β : Type} {f : β → Sem Value} : ∀ (l : List β) (us : List Value), us.length = l.length → (∀ (i : Nat) (x : β) (u : Value), l[i]? = some x → us[i]? = some u → (f x).run P w = .ok u w) → (l.mapM f).run P w = .ok us w
 | [], us, h, _ => by obtain rfl := List.eq_nil_of_length_eq_zero h; simp
 | x :: l, [], h, _ => by cases h
 | x :: l, u :: us, h, hf => by
  have h1 := hf 0 x u rfl rfl
  have h2 := au8 l us (by simpa using h) fun i y v hy hv => hf (i + 1) y v (by simpa using hy) (by simpa using hv)
  simp [List.mapM_cons, h1, h2]
theorem awc (hT : ey P τ) {fn : Func} {r : AV} (hnd : ae8 (fn.results.toList.map ahh) = true) (hs : cr τ B w c (bj a) e) (h : acn τ e fn.results.toList oneOf = some r) :
  ∃ v, (results fn a.tmps).run P w = .ok v w ∧ anq B w (adm B c (fn.results.toList.map afl)) v r := by
 obtain ⟨l, h1, h2, h3⟩ := amx h
 have hnd' := aj1 (aj0 hnd)
 have hall : ∀ i, i < fn.results.toList.length → ∃ u, (∀ rv, fn.results.toList[i]? = some rv → (match rv with | .tmp t => pure (a.tmps.getD t undef) | .cell s t => do loadVar t (← asAddr (a.tmps.getD s undef)) : Sem Value).run P w = .ok u w) ∧
   ∀ x, l[i]? = some x → lg B w (adm B c (fn.results.toList.map afl)) (.ret i) u x := fun i hi => by
  have hrv : fn.results.toList[i]? = some fn.results.toList[i] := List.getElem?_eq_getElem hi
  have hx : l[i]? = some (l[i]'(by omega)) := List.getElem?_eq_getElem (by omega)
  obtain ⟨u, q1, q2⟩ := bch hT hs (h2 i _ _ hrv hx)
  refine ⟨u, fun rv hrv' => ?_, fun x hx' => ?_⟩
  ·rw [hrv] at hrv'; cases hrv'; exact q1
  ·rw [hx] at hx'; cases hx'
   exact q2.adm hnd' (by rw [List.getElem?_map, hrv]; rfl)
 obtain ⟨us, hlen, hus⟩ : ∃ us : List Value, us.length = fn.results.toList.length ∧ ∀ (i : Nat) (u : Value), us[i]? = some u → (∀ rv, fn.results.toList[i]? = some rv → (match rv with | .tmp t => pure (a.tmps.getD t undef) | .cell s t => do loadVar t (← asAddr (a.tmps.getD s undef)) : Sem Value).run P w = .ok u w) ∧
   ∀ x, l[i]? = some x → lg B w (adm B c (fn.results.toList.map afl)) (.ret i) u x := by
  refine ⟨(List.range fn.results.toList.length).map fun i => if hi : i < fn.results.toList.length then (hall i hi).choose else undef, by simp, fun i u hu => ?_⟩
  rw [List.getElem?_map] at hu
  by_cases hi : i < fn.results.toList.length
  ·rw [List.getElem?_range hi] at hu
   simp only [Option.map_some, hi, dif_pos, Option.some.injEq] at hu
   subst hu
   exact (hall i hi).choose_spec
  ·rw [List.getElem?_eq_none (by simpa using hi)] at hu; cases hu
 have hrun := au8 (P := P) (w := w) fn.results.toList us hlen fun i rv u hrv hu => (hus i u hu).1 rv hrv
 have hres : (results fn a.tmps).run P w = .ok (if h : us.toArray.size = 1 then us.toArray[0] else .tuple us.toArray) w := by
  unfold results
  rw [Array.mapM_eq_mapM_toList]
  simp only [Sem.run_bind, Sem.run_map, Sem.run_pure]
  have key : ∀ (X : Result (List Value)), X = .ok us w → ((X.andThen fun a w' => Result.ok a.toArray w').andThen fun (a : Array Value) w' => Result.ok (if h : a.size = 1 then a[0] else Value.tuple a) w') = .ok (if h : us.toArray.size = 1 then us.toArray[0] else .tuple us.toArray) w := by
   rintro _ rfl; rfl
  exact key _ hrun
 refine ⟨_, hres, ?_⟩
 by_cases h1' : us.length = 1
 ·obtain ⟨x, hx⟩ : ∃ x, l = [x] := List.length_eq_one_iff.1 (by omega)
  subst hx
  cases h3
  have hu0 : us[0]? = some (us[0]'(by omega)) := List.getElem?_eq_getElem (by omega)
  have hp := (hus 0 _ hu0).2 r rfl
  rw [dif_pos (by simpa using h1')]
  show anq B w _ (us[0]'(by omega)) r
  cases r <;> first
   | exact hp
   | exact (hp : False).elim
 ·have hr : r = .tup l := by
   cases l with
   | nil => cases h3; rfl
   | cons x l => cases l with
    | nil => exact absurd (by rw [hlen, ← h1]; rfl) h1'
    | cons y l => cases h3; rfl
  subst hr
  rw [dif_neg (by simpa using h1')]
  exact ⟨us.toArray, rfl, by simp [hlen, h1], fun i x u hx hu => (hus i u (by simpa using hu)).2 x hx⟩
structure agu (P : Program) (S : Sys) : Prop where
 tab : ey P S.τ
 fol : P.follows .mixedOrders = true
 or : ∀ f g, S.O f = some g → ∀ l r, g l = some r → PC P S.τ f l r
 fn : ∀ f d, S.F f = some d → ∃ fn, P.funcs[f]? = some fn ∧ ay fn = some d
theorem aj2 : ∀ (l : List AV) (n d : Nat), look (wm n l) d = if n ≤ d then (l[d - n]?).getD .undef else .undef
 | [], n, d => by simp [wm, look]
 | x :: l, n, d => by
  simp only [wm, look]
  by_cases h : d = n
  ·subst h; simp [ag]
  ·rw [iv h]
   show look (wm (n + 1) l) d = _
   rw [aj2 l (n + 1) d]
   by_cases h1 : n + 1 ≤ d
   ·rw [if_pos h1, if_pos (by omega), show d - n = (d - (n + 1)) + 1 by omega]; simp
   ·rw [if_neg h1, if_neg (by omega)]
theorem aqm {S : Sys} (hS : agu P S) : ∀ (n f : Nat) (l : List AV) (r : AV), ng S n f l = some r → PC P S.τ f l r
 | 0, f, l, r, h => by cases h
 | n + 1, f, l, r, h => by
  unfold ng at h
  split at h
  ·rename_i g hO
   exact hS.or f g hO l r h
  ·split at h
   ·rename_i d hF
    obtain ⟨fn, hf, hfd⟩ := hS.fn f d hF
    unfold ay at hfd
    cases hb : fn.body with
    | none => rw [hb] at hfd; cases hfd
    | some cd =>
    rw [hb] at hfd
    simp only at hfd
    cases hok : (tu fn.ntmps cd && ae8 (fn.results.toList.map ahh) && !(fn.name == "runtime.NumGoroutine")) with
    | false => rw [hok] at hfd; cases hfd
    | true =>
    rw [hok] at hfd
    cases hfd
    simp only [Bool.and_eq_true] at hok
    obtain ⟨⟨hds, hnd⟩, hnm⟩ := hok
    intro w c vs hg hsz hargs
    refine .inl ⟨?_, ?_⟩
    ·have : ¬ fn.name = "runtime.NumGoroutine" := by simpa using hnm
     simp [callFunc, hf, this, hb]
    ·have hst : St S.τ w.heap.size w c (vs ++ Array.replicate (fn.ntmps - vs.size) undef).size (look (wm 0 l)) { tmps := vs ++ Array.replicate (fn.ntmps - vs.size) undef, defers := [] } w := by
      refine ⟨c, Ext.refl .., ⟨Nat.le_refl _, hg, fun d => ?_⟩, rfl, rfl⟩
      rw [aj2, if_pos (Nat.zero_le _), Nat.sub_zero]
      cases hd : l[d]? with
      | none => trivial
      | some x =>
       have hdl : d < vs.size := by rw [hsz]; exact (List.getElem?_eq_some_iff.1 hd).1
       have hv : vs[d]? = some vs[d] := by simp [hdl]
       have hslot : bj { tmps := vs ++ Array.replicate (fn.ntmps - vs.size) undef, defers := [] } d = vs[d] := by
        unfold bj
        rw [Array.getD_eq_getD_getElem?, Array.getElem?_append_left hdl, hv]; rfl
       rw [hslot]
       have hax := hargs d _ x hv hd
       generalize vs[d] = u at hax
       rcases hax with hp | hp
       ·exact hp.slot
       ·cases x <;> first
         | exact hp
         | trivial
         | cases hp
     refine calls_of_wp hf hb ?_
     refine zt (n := fn.ntmps) hS.fol hS.tab (fun f l r h => aqm hS n f l r h) (by simp; omega) cd _ _ _ _ w hds h hst fun z e a w' hK hst' => ?_
     obtain ⟨c', q1, q2, q3, q4⟩ := hst'
     have hfin : acn S.τ e fn.results.toList oneOf = some r → bodyPost P fn (fun x w' => ∃ v, x = .returned v ∧ ∃ c', Ext w.heap.size w c w' c' ∧ anq w.heap.size w' c' v r) .normal a w' := fun hr => by
      obtain ⟨v, p1, p2⟩ := awc hS.tab hnd q2 hr
      exact ⟨q4, v, p1, v, rfl, _, q1.trans (aky ..), p2⟩
     cases z with
     | normal => exact hfin hK
     | ret => exact hfin hK
     | exit j => cases hK
   ·cases h
end
end Go.Proofs.YtmdimhcjogjcgaaGreatDoor.Abs
namespace Go.Proofs.YtmdimhcjogjcgaaGreatDoor.Abs
open Go.RowKit
def akz (u : Value) (a : AV) : Bool := match a, u with
 | .own _ [], .slice none 0 0 => true
 | .sl _ [], .slice none 0 0 => true
 | .bool b, .bool c => b == c
 | .int k n, .int k' n' => ary k k' && decide (n = n')
 | .str s, .string s' => decide (s'.data.toList = s)
 | .undef, u => u.oneCell'
 | _, _ => false
def ajd : List Value → List AV → Bool
 | u :: us, a :: as_ => akz u a && ajd us as_
 | _, _ => true
def agv (P : Program) (S : Nat) : List Field → List (Nat × Nat) → Bool
 | [], [] => true
 | f :: fs, (o, t) :: r => Nat.beq f.offset o && Nat.beq f.type t && (match P.info? f.type with | some i => Nat.blt 0 i.size && Nat.ble (f.offset + i.size) S | none => false) && agv P S fs r
 | _, _ => false
def aya (P : Program) (ti : TI) (u : Option TypeDesc) : Bool := match ti.k, u with
 | .bool, some .bool => Nat.beq ti.sz 1
 | .int k, some (.int k') => ary k' k && Nat.beq ti.sz 1
 | .str, some .string => Nat.beq ti.sz 1
 | .slice e, some (.slice e') => Nat.beq e' e && Nat.beq ti.sz 1 && (match P.info? e with | some i => Nat.ble i.bytes 128 | none => true)
 | .struct fs, some (.struct F) => agv P ti.sz F.toList fs
 | .func, some (.func _ _ _) => Nat.beq ti.sz 1
 | .tuple _, _ => true
 | .array n e, some (.array n' e') => Nat.beq n' n && Nat.beq e' e
 | _, _ => false
def az7 (P : Program) (t : Nat) (ti : TI) : Bool := match P.info? t with
 | none => false
 | some i => (match i.zero with
  | none => false
  | some z => Nat.beq i.size ti.sz && Nat.beq i.bytes ti.bytes && Nat.beq z.cells.size ti.sz && Nat.beq ti.zero.length ti.sz && ajd z.cells.toList ti.zero && Nat.blt 0 ti.sz && aya P ti (P.underlying t))
theorem awd {u : Value} {a : AV} (h : akz u a = true) : ayv u a := by
 unfold akz at h
 split at h
 ·exact rfl
 ·intro w c; exact .nil _
 ·obtain rfl := eq_of_beq h; intro w c; exact .bool _
 ·simp only [Bool.and_eq_true, decide_eq_true_eq] at h
  obtain ⟨h1, rfl⟩ := h
  obtain rfl := aiw h1
  intro w c; exact .int _ _
 ·obtain rfl := of_decide_eq_true h
  intro w c; exact .str _
 ·intro w c; exact .undef _ h
 ·cases h
theorem amy : ∀ {us : List Value} {l : List AV}, ajd us l = true → ∀ (j : Nat) (u : Value) (a : AV), us[j]? = some u → l[j]? = some a → ayv u a
 | [], _, _, j, u, a, h, _ => by simp at h
 | _ :: _, [], _, j, u, a, _, h => by simp at h
 | u' :: us, a' :: l, h, j, u, a, h1, h2 => by
  simp only [ajd, Bool.and_eq_true] at h
  cases j with
  | zero => simp only [List.getElem?_cons_zero, Option.some.injEq] at h1 h2; subst h1; subst h2; exact awd h.1
  | succ j => exact amy h.2 j u a (by simpa using h1) (by simpa using h2)
theorem aj3 {P : Program} {S : Nat} : ∀ {F : List Field} {fs : List (Nat × Nat)}, agv P S F fs = true → fs = F.map (fun f => (f.offset, f.type)) ∧ ∀ f ∈ F, ∃ fi, P.info? f.type = some fi ∧ 0 < fi.size ∧ f.offset + fi.size ≤ S
 | [], [], _ => ⟨rfl, fun f hf => by cases hf⟩
 | [], _ :: _, h => by cases h
 | _ :: _, [], h => by cases h
 | f :: F, (o, t) :: fs, h => by
  simp only [agv, Bool.and_eq_true] at h
  obtain ⟨⟨⟨h1, h2⟩, h3⟩, h4⟩ := h
  obtain ⟨k1, k2⟩ := aj3 h4
  refine ⟨?_, fun g hg => ?_⟩
  ·rw [List.map_cons, ← k1, Nat.eq_of_beq_eq_true h1, Nat.eq_of_beq_eq_true h2]
  ·rcases List.mem_cons.1 hg with rfl | hg
   ·split at h3
    ·rename_i i hi
     simp only [Bool.and_eq_true] at h3
     exact ⟨i, hi, by simpa using h3.1, by simpa using h3.2⟩
    ·cases h3
   ·exact k2 g hg
theorem a8x {P : Program} {t : Nat} {ti : TI} (h : az7 P t ti = true) : ayw P t ti := by
 unfold az7 at h
 split at h
 ·cases h
 ·rename_i i hi
  split at h
  ·cases h
  ·rename_i z hz
   simp only [Bool.and_eq_true] at h
   obtain ⟨⟨⟨⟨⟨⟨h1, h2⟩, h3⟩, h4⟩, h5⟩, h6⟩, h7⟩ := h
   refine ⟨⟨i, z, hi, Nat.eq_of_beq_eq_true h1, Nat.eq_of_beq_eq_true h2, hz, Nat.eq_of_beq_eq_true h3, Nat.eq_of_beq_eq_true h4, fun j u a hu ha => amy h5 j u a (by simpa using hu) ha⟩, by simpa using h6, ?_⟩
   unfold aya at h7
   obtain ⟨k, sz, by_, ze⟩ := ti
   simp only at h7 ⊢
   split at h7 <;> rename_i hu
   ·exact ⟨hu, Nat.eq_of_beq_eq_true h7⟩
   ·simp only [Bool.and_eq_true] at h7
    obtain rfl := aiw h7.1
    exact ⟨hu, Nat.eq_of_beq_eq_true h7.2⟩
   ·exact ⟨hu, Nat.eq_of_beq_eq_true h7⟩
   ·simp only [Bool.and_eq_true] at h7
    obtain rfl := Nat.eq_of_beq_eq_true h7.1.1
    refine ⟨⟨hu, fun ei he => ?_⟩, Nat.eq_of_beq_eq_true h7.1.2⟩
    have h8 := h7.2
    rw [he] at h8
    simpa using h8
   ·obtain ⟨k1, k2⟩ := aj3 h7
    exact ⟨_, hu, k1, k2⟩
   ·exact ⟨⟨_, _, _, hu⟩, Nat.eq_of_beq_eq_true h7⟩
   ·trivial
   ·simp only [Bool.and_eq_true] at h7
    obtain rfl := Nat.eq_of_beq_eq_true h7.1
    obtain rfl := Nat.eq_of_beq_eq_true h7.2
    exact hu
   ·cases h7
def ah4 (P : Program) (T : Nat → Option TI) : Nat → Bool
 | 0 => true
 | n + 1 => (match T n with | some ti => az7 P n ti | none => true) && ah4 P T n
theorem aqn {P : Program} {T : Nat → Option TI} : ∀ {n : Nat}, ah4 P T n = true → ∀ t ti, t < n → T t = some ti → ayw P t ti
 | 0, _, t, ti, h, _ => by omega
 | n + 1, h, t, ti, hlt, ht => by
  simp only [ah4, Bool.and_eq_true] at h
  by_cases hn : t = n
  ·subst hn
   rw [ht] at h
   exact a8x h.1
  ·exact aqn h.2 t ti (by omega) ht
theorem au9 {P : Program} {T : Nat → Option TI} {n : Nat} {τ : Tab} (hτ : τ.T = fun t => ag (Nat.blt t n) (T t) none) (h : ah4 P T n = true) : ey P τ := fun t ti ht => by
 rw [hτ] at ht
 have ht : ag (Nat.blt t n) (T t) none = some ti := ht
 cases hb : Nat.blt t n with
 | false => rw [hb] at ht; cases ht
 | true => rw [hb] at ht; exact aqn h t ti (by simpa using hb) ht
theorem ava {P : Program} {S : Sys} (hS : agu P S) {f : Nat} {l : List AV} {r : AV} (h : ah S f l = some r) : PC P S.τ f l r := by
 rw [rr] at h
 obtain ⟨n, hn⟩ := anp.1 h
 exact aqm hS n f l r hn
theorem ly {w W : World} (c : Cls) (h : Below w.heap.size w W) : Ext w.heap.size w c W (fun b => if b < w.heap.size then c b else .frz) :=
 ⟨h.os, h.tape, h.output, h.size, fun b hb _ => ⟨h.block b hb, by simp [hb]⟩, fun b i v hv hs => by
  have hb := wc hv
  exact ⟨by rw [vd (w := w) (h.block b hb)]; exact hv, by unfold ga at *; simpa [hb] using hs⟩⟩
theorem arw {P : Program} {τ : Tab} {f : Nat} {l : List AV} {r : AV} {fn : Func} {cd : Code} (hf : P.funcs[f]? = some fn) (hb : fn.body = some cd) (hnm : ¬ fn.name = "runtime.NumGoroutine")
  (h : ∀ (w : World) (c : Cls) (vs : Array Value), GOK τ w c → vs.size = l.length → (∀ (i : Nat) (v : Value) (a : AV), vs[i]? = some v → l[i]? = some a → acs w c v a) →
   Calls P f vs w fun e w' => ∃ v, e = .returned v ∧ Below w.heap.size w w' ∧ ∀ c', anq w.heap.size w' c' v r) : PC P τ f l r := by
 intro w c vs hG hsz ha
 refine .inl ⟨by simp [callFunc, hf, hnm, hb], (h w c vs hG hsz ha).mono fun e w' ⟨v, he, hB, hr⟩ => ⟨v, he, _, ly c hB, hr _⟩⟩
theorem afm {w : World} {c : Cls} {vs : Array Value} {x : AV} (hsz : vs.size = [x].length) (ha : ∀ (i : Nat) (v : Value) (a : AV), vs[i]? = some v → [x][i]? = some a → acs w c v a) : ∃ v, vs = #[v] ∧ acs w c v x := by
 obtain ⟨l⟩ := vs
 match l, hsz with
 | [v], _ => exact ⟨v, rfl, ha 0 v x rfl rfl⟩
theorem bci {w : World} {c : Cls} {v : Value} {k : IntKind} {n : Int} (h : acs w c v (.int k n)) : v = .int k n := by rcases h with h | h <;> exact iu h
theorem arg_str {w : World} {c : Cls} {v : Value} {s : List UInt8} (h : acs w c v (.str s)) : ∃ b : ByteArray, v = .string b ∧ b.data.toList = s := by rcases h with h | h <;> exact lh h
theorem a8y {w : World} {c : Cls} {g : Nat} (hg : τ.G g = some acz) (hG : GOK τ w c) : w.rangeAt g 0 Nam.acw.toList := by
 obtain ⟨b, o, h1, _, f, h2, _, h4⟩ := acv (hG g _ hg)
 simp only [Nat.add_zero, Value.pointer.injEq, Option.some.injEq, Addr.mk.injEq, and_true] at h1
 obtain ⟨rfl, rfl⟩ := h1
 intro j v hv
 have hj : j < 9 := by have := (List.getElem?_eq_some_iff.1 hv).1; simpa [Nam.acw] using this
 rw [h2 j hj]
 obtain ⟨a, ha⟩ : ∃ a, acz[j]? = some a := ⟨_, List.getElem?_eq_getElem (by simpa [acz] using hj)⟩
 have h5 := h4 j a ha
 have key : ∀ (s : List UInt8) (b : ByteArray), b.data.toList = s → Rep w c (f j) (.str s) → f j = .string b := fun s b hb hr => by
  obtain ⟨b', e1, e2⟩ := lh hr
  rw [e1]
  congr 1
  apply ByteArray.ext
  apply Array.ext'
  rw [e2, hb]
 rcases (by omega : j = 0 ∨ j = 1 ∨ j = 2 ∨ j = 3 ∨ j = 4 ∨ j = 5 ∨ j = 6 ∨ j = 7 ∨ j = 8) with rfl | rfl | rfl | rfl | rfl | rfl | rfl | rfl | rfl
 all_goals (simp only [acz, List.getElem?_cons_zero, List.getElem?_cons_succ, Option.some.injEq] at ha; subst ha; simp [Nam.acw, Nam.word] at hv; subst hv; congr 1; exact key _ _ rfl h5)
theorem a4f (l : List AV) (r : AV) (h : ac0 l = some r) : PC Tryz.prog τ 183 l r := by
 unfold ac0 at h
 split at h
 ·rename_i n
  split at h
  ·rename_i hn
   cases h
   refine arw Tryz.func183 rfl (by decide +kernel) fun w c vs hG hsz ha => ?_
   obtain ⟨v, rfl, hv⟩ := afm hsz ha
   obtain rfl := bci hv
   exact (NT.akc n w hn).mono fun e w' ⟨he, hB⟩ => ⟨_, he, hB, fun c' => Rep.str _⟩
  ·cases h
 ·cases h
theorem awe (l : List AV) (r : AV) (h : abt l = some r) : PC Tryz.prog τ 101 l r := by
 unfold abt at h
 split at h
 ·cases h
  refine arw Tryz.func101 rfl (by decide +kernel) fun w c vs hG hsz ha => ?_
  obtain ⟨v, rfl, hv⟩ := afm hsz ha
  obtain ⟨b, rfl, rfl⟩ := arg_str hv
  exact (Nam.a1r b w (a8y (g := 0) rfl hG)).mono fun e w' ⟨he, hB⟩ => ⟨_, he, hB, fun c' => Rep.bool _⟩
 ·cases h
theorem adn {w : World} {c : Cls} {vs : Array Value} {x y : AV} (hsz : vs.size = [x, y].length) (ha : ∀ (i : Nat) (v : Value) (a : AV), vs[i]? = some v → [x, y][i]? = some a → acs w c v a) : ∃ v u, vs = #[v, u] ∧ acs w c v x ∧ acs w c u y := by
 obtain ⟨l⟩ := vs
 match l, hsz with
 | [v, u], _ => exact ⟨v, u, rfl, ha 0 v x rfl rfl, ha 1 u y rfl rfl⟩
theorem bi1 (l : List AV) (r : AV) (h : ay1 l = some r) : PC Tryz.prog τ 286 l r := by
 unfold ay1 at h
 split at h
 ·cases h
  intro w c vs hG hsz ha
  obtain ⟨v, u, rfl, hv, hu⟩ := adn hsz ha
  obtain ⟨a, rfl, rfl⟩ := arg_str hv
  obtain ⟨b, rfl, rfl⟩ := arg_str hu
  refine .inr ⟨_, w, ?_, c, Ext.refl _ _ _, Rep.int _ _⟩
  rw [run_callFunc_extern (e := Extern.BytealgCompare.compare) Tryz.func286 (by kernel_rfl) rfl (by kernel_rfl) (by kernel_rfl)]
  rw [Lib.run_compareString]
  rfl
 ·cases h
theorem bmo (f : Nat) (g : List AV → Option AV) (h : OO f = some g) (l : List AV) (r : AV) (hr : g l = some r) : PC Tryz.prog τ f l r := by
 by_cases h1 : f = 183
 ·subst h1
  cases (show OO 183 = some ac0 from rfl).symm.trans h
  exact a4f l r hr
 by_cases h2 : f = 101
 ·subst h2
  cases (show OO 101 = some abt from rfl).symm.trans h
  exact awe l r hr
 by_cases h3 : f = 286
 ·subst h3
  cases (show OO 286 = some ay1 from rfl).symm.trans h
  exact bi1 l r hr
 by_cases h4 : f = 78
 ·subst h4
  cases (show OO 78 = some ov from rfl).symm.trans h
  cases hr
 by_cases h5 : f = 195
 ·subst h5
  cases (show OO 195 = some ov from rfl).symm.trans h
  cases hr
 by_cases h6 : f = 22
 ·subst h6
  cases (show OO 22 = some ov from rfl).symm.trans h
  cases hr
 by_cases h7 : f = 107
 ·subst h7
  cases (show OO 107 = some ov from rfl).symm.trans h
  cases hr
 by_cases h8 : f = 186
 ·subst h8
  cases (show OO 186 = some ov from rfl).symm.trans h
  cases hr
 by_cases h9 : f = 100
 ·subst h9
  cases (show OO 100 = some ov from rfl).symm.trans h
  cases hr
 by_cases h10 : f = 13
 ·subst h10
  cases (show OO 13 = some ov from rfl).symm.trans h
  cases hr
 by_cases h11 : f = 19
 ·subst h11
  cases (show OO 19 = some ov from rfl).symm.trans h
  cases hr
 by_cases h12 : f = 31
 ·subst h12
  cases (show OO 31 = some ov from rfl).symm.trans h
  cases hr
 by_cases h13 : f = 72
 ·subst h13
  cases (show OO 72 = some ov from rfl).symm.trans h
  cases hr
 have e1 : Nat.beq f 183 = false := iv h1
 have e2 : Nat.beq f 101 = false := iv h2
 have e3 : Nat.beq f 286 = false := iv h3
 have e4 : Nat.beq f 78 = false := iv h4
 have e5 : Nat.beq f 195 = false := iv h5
 have e6 : Nat.beq f 22 = false := iv h6
 have e7 : Nat.beq f 107 = false := iv h7
 have e8 : Nat.beq f 186 = false := iv h8
 have e9 : Nat.beq f 100 = false := iv h9
 have e10 : Nat.beq f 13 = false := iv h10
 have e11 : Nat.beq f 19 = false := iv h11
 have e12 : Nat.beq f 31 = false := iv h12
 have e13 : Nat.beq f 72 = false := iv h13
 have h0 : OO f = none := by
  unfold OO
  rw [e1, e2, e3, e4, e5, e6, e7, e8, e9, e10, e11, e12, e13]
  simp only [ag]
  repeat' split
  all_goals rfl
 rw [h0] at h; cases h
end Go.Proofs.YtmdimhcjogjcgaaGreatDoor.Abs
namespace Go.Proofs.YtmdimhcjogjcgaaGreatDoor.Abs
theorem bgc : ah4 Tryz.prog TT 331 = true := by kernel_rfl
theorem abz : agu Tryz.prog S := ⟨au9 rfl bgc, by kernel_rfl, bmo, fun f d h => by
 obtain ⟨fn, h1, h2⟩ := Option.bind_eq_some_iff.1 h
 exact ⟨fn, h1, h2⟩⟩
end Go.Proofs.YtmdimhcjogjcgaaGreatDoor.Abs
