/- What is forgotten, what is shut. -/
import Derived.Test.YtmdimhcjogjcgaaGreatDoorME
import Derived.LoopN
import Derived.KernelRfl
set_option linter.unusedVariables false
set_option linter.unusedSimpArgs false
set_option linter.unusedSectionVars false
set_option linter.deprecated false
set_option linter.unnecessarySimpa false
namespace Go.Proofs.YtmdimhcjogjcgaaGreatDoor.Abs
open Go.RowKit
theorem ownsG_ovr : ∀ (m : List (Nat × AV)) (S j : Nat), ovr (ownsG S m) j = if bitAt S j = true then none else (match ovr m j with | some (.own z l) => some (.own z l) | _ => none)
  | [], S, j => by simp [ownsG, ovr]
  | (o, y) :: r, S, j => by
    have hbit : bitAt (S ||| 2 ^ o) j = (bitAt S j || decide (o = j)) := by
      rw [bitAt_or]
      congr 1
      rw [bitAt_test, Nat.testBit_two_pow]
    have hplain : (∀ z l, y ≠ .own z l) → ovr (ownsG (S ||| 2 ^ o) r) j = if bitAt S j = true then none else (match ovr ((o, y) :: r) j with | some (.own z l) => some (.own z l) | _ => none) := fun hn => by
      rw [ownsG_ovr r, hbit, ovr_cons]
      by_cases hj : o = j
      · subst hj
        simp only [decide_true, Bool.or_true, if_true]
        split
        · rfl
        · split
          · rename_i z l hh; cases hh; exact absurd rfl (hn z l)
          · rfl
      · simp [hj]
    cases y <;> first
      | exact hplain (by intro z l h; cases h)
      | skip
    rename_i z l
    show ovr (pick2 (bitAt S o) (ownsG S r) ((o, .own z l) :: ownsG (S ||| 2 ^ o) r)) j = _
    cases hS : bitAt S o with
    | true =>
      show ovr (ownsG S r) j = _
      rw [ownsG_ovr r, ovr_cons]
      by_cases hj : o = j
      · subst hj; simp [hS]
      · simp [hj]
    | false =>
      show ovr ((o, .own z l) :: ownsG (S ||| 2 ^ o) r) j = _
      rw [ovr_cons, ownsG_ovr r, hbit, ovr_cons]
      by_cases hj : o = j
      · subst hj; simp [hS]
      · simp [hj]
theorem plainM_ovr : ∀ (m : List (Nat × AV)) (j : Nat), (∀ z l, ovr m j ≠ some (.own z l)) → ovr (plainM m) j = ovr m j
  | [], j, _ => rfl
  | (o, y) :: r, j, h => by
    rw [ovr_cons] at h
    have hrest : o ≠ j → ovr (plainM r) j = ovr r j := fun hj => plainM_ovr r j (by rw [if_neg hj] at h; exact h)
    cases y <;> first
      | (show ovr ((o, _) :: plainM r) j = _
         rw [ovr_cons, ovr_cons]
         by_cases hj : o = j
         · rw [if_pos hj, if_pos hj]
         · rw [if_neg hj, if_neg hj]; exact hrest hj)
      | skip
    rename_i z l
    show ovr (plainM r) j = _
    by_cases hj : o = j
    · rw [if_pos hj] at h; exact absurd rfl (h z l)
    · rw [ovr_cons, if_neg hj]; exact hrest hj
section
variable {P : Program} {τ : Tab} {B : Nat} {wB : World} {cB c : Cls} {a : Act} {w : World} {sz : Nat} {e : Env}
theorem BoxR.norm {d : Nat} {u : Value} {z : Nat} {cs : List AV} {m : List (Nat × AV)} (h : BoxR B w c d u z cs m) : BoxR B w c d u z (patch cs (plainM m)) (ownsM m) := by
  obtain ⟨b, vs, ty, h1, h2, h3, h4, h5, h6, h7, h8, h9⟩ := h
  have hov : ∀ j, ovr (ownsM m) j = (match ovr m j with | some (.own z l) => some (.own z l) | _ => none) := fun j => by
    unfold ownsM; rw [ownsG_ovr, bitAt_zero]; simp
  refine ⟨b, vs, ty, h1, h2, h3, h4, h5, by rw [patch_len, h6], fun j x u p1 p2 p3 => ?_, fun j x u p1 p2 => ?_, fun j x p1 => ?_⟩
  · rw [hov] at p1
    have hno : ∀ z l, ovr m j ≠ some (.own z l) := fun z l hh => by rw [hh] at p1; cases p1
    rcases patch_get _ _ _ _ p2 with ⟨y, q1, rfl⟩ | ⟨q1, q2⟩
    · rw [plainM_ovr m j hno] at q1
      exact (h8 j y u q1 p3).frz
    · rw [plainM_ovr m j hno] at q1
      exact h7 j x u q1 q2 p3
  · rw [hov] at p1
    split at p1
    · rename_i z' l hh; cases p1; exact h8 j _ u hh p2
    · cases p1
  · rw [hov] at p1
    split at p1
    · rename_i z' l hh; cases p1; exact h9 j _ hh
    · cases p1
theorem SRel.norm {T : Nat → Value} {e' : Env} (h : SRel τ B w c T e) (he : ∀ x, e' x = .undef ∨ e' x = cn (e x)) : SRel τ B w c T e' := by
  refine ⟨h.base, h.g, fun d => ?_⟩
  rcases he d with hd | hd
  · rw [hd]; trivial
  · rw [hd]
    have := h.slot d
    cases hed : e d <;> rw [hed] at this <;> first
      | exact this
      | exact this.1
      | trivial
      | exact BoxR.norm this
theorem look_map {L : List Nat} {g : Nat → AV} (x : Nat) : look (L.map fun i => (i, g i)) x = .undef ∨ look (L.map fun i => (i, g i)) x = g x := by
  induction L with
  | nil => exact .inl rfl
  | cons i L ih =>
    simp only [List.map_cons, look]
    by_cases hx : x = i
    · subst hx; exact .inr (by simp [pick2])
    · rw [beq_ne hx]; exact ih
theorem SRel.forget {T : Nat → Value} (h : SRel τ B w c T e) (L : List Nat) : SRel τ B w c T (Abs.forget L e) := h.norm fun x => look_map x
theorem St.fgOf {ann : Nat → Option (List Nat)} {cd : Code} (h : St τ B wB cB sz e a w) : St τ B wB cB sz (Abs.fgOf ann cd e) a w := by
  obtain ⟨c, h1, h2, h3⟩ := h
  refine ⟨c, h1, ?_, h3⟩
  unfold Abs.fgOf
  split
  · split
    · exact h2.forget _
    · exact h2
  · exact h2
theorem St.fgJ {ann : Nat → Option (List Nat)} {cd : Code} (h : St τ B wB cB sz e a w) : St τ B wB cB sz (Abs.fgJ ann cd e) a w := by
  obtain ⟨c, h1, h2, h3⟩ := h
  refine ⟨c, h1, ?_, h3⟩
  unfold Abs.fgJ
  split
  · split
    · exact h2.forget _
    · exact h2
  · exact h2
/-- Boxes that are never written any more. -/
def frB (B : Nat) (c : Cls) (s : Nat) : Cls := fun b => match c b with
  | .box d => if B ≤ b ∧ d = s then .frz else .box d
  | k => k
theorem frB_stab {s b i : Nat} (h : stab c b i) : stab (frB B c s) b i := by
  unfold stab frB at *
  cases hk : c b with
  | frz => trivial
  | own st g => rw [hk] at h; exact h
  | box d => rw [hk] at h; exact h.elim
theorem ext_frB (w : World) (s : Nat) : Ext B w c w (frB B c s) := by
  refine ⟨rfl, rfl, rfl, Nat.le_refl _, fun b hb _ => ⟨rfl, ?_⟩, fun b i v hv hs => ⟨hv, frB_stab hs⟩⟩
  unfold frB
  cases hk : c b with
  | frz => rfl
  | own st g => rfl
  | box d => simp; omega
theorem set_self (e : Env) (s : Nat) : Abs.set e s (e s) = e := by
  funext x
  by_cases h : x = s
  · subst h; rw [set_same]
  · rw [set_ne _ _ h]
theorem St.shut1 (h : St τ B wB cB sz e a w) (s : Nat) : St τ B wB cB sz (Abs.set e s (shutB (e s))) a w := by
  by_cases hb : ∃ z cs m, e s = .boxv z cs m
  · obtain ⟨z, cs, m, hes⟩ := hb
    obtain ⟨c, h1, h2, h3⟩ := h
    have hbox := h2.slot s
    rw [hes] at hbox
    obtain ⟨b, vs, ty, q1, q2, q3, q4, q5, q6, q7, q8, q9⟩ := hbox
    have hU : SRel τ B w c (slots a) (Abs.set e s .undef) := h2.weak fun x => by
      by_cases hx : x = s
      · subst hx; rw [set_same]; exact .undef _
      · rw [set_ne _ _ hx]; exact .refl _
    have hch : Chg (Abs.set e s .undef) w c w (frB B c s) := fun b' _ hl => by
      refine ⟨rfl, ?_⟩
      unfold frB
      cases hk : c b' with
      | frz => rfl
      | own st g => rfl
      | box d =>
        rw [hk] at hl
        obtain ⟨z', cs', m', hl⟩ := hl
        have hds : d ≠ s := fun hh => by subst hh; rw [set_same] at hl; cases hl
        simp [hds]
    have hs' := hU.change (ext_frB w s) hch
    refine ⟨frB B c s, h1.trans (ext_frB w s), ?_, h3⟩
    have hrep : Rep w (frB B c s) (slots a s) (.eptr z (patch cs m) 0) := by
      rw [q1]
      have := Rep.eptr (w := w) (c := frB B c s) b 0 z (patch cs m) 0 (fun j => vs.getD j undef) (by rw [patch_len, q6]) (fun j hj => by rw [cell_of q3, Nat.zero_add]; simp [q5, hj]) (fun j hj => by unfold stab frB; simp [q4, q2]) (fun j x hx => by
        have hj : j < z := by have := (List.getElem?_eq_some_iff.1 hx).1; rw [patch_len, q6] at this; exact this
        have hvj : vs[j]? = some (vs.getD j undef) := by simp [q5, hj]
        rcases patch_get _ _ _ _ hx with ⟨y, p1, rfl⟩ | ⟨p1, p2⟩
        · exact (q8 j y _ p1 hvj).frz.ext (ext_frB (B := B) w s)
        · exact (q7 j x _ p1 p2 hvj).ext (ext_frB (B := B) w s))
      exact this
    have := hs'.again (d := s) (v := .eptr z (patch cs m) 0) (e' := Abs.set (Abs.set e s .undef) s (.eptr z (patch cs m) 0)) hrep rfl rfl
    have he : Abs.set (Abs.set e s .undef) s (.eptr z (patch cs m) 0) = Abs.set e s (shutB (e s)) := by
      funext x
      by_cases hx : x = s
      · subst hx; rw [set_same, set_same, hes]; rfl
      · rw [set_ne _ _ hx, set_ne _ _ hx, set_ne _ _ hx]
    rw [← he]; exact this
  · have : shutB (e s) = e s := by
      cases hes : e s <;> first | rfl | exact absurd ⟨_, _, _, hes⟩ hb
    rw [this, set_self]; exact h
theorem St.shutAll : ∀ (l : List Operand) (e : Env), St τ B wB cB sz e a w → St τ B wB cB sz (Abs.shutAll e l) a w
  | [], e, h => h
  | .tmp s :: l, e, h => St.shutAll l _ (h.shut1 s)
  | .const _ :: l, e, h => St.shutAll l _ h
  | .global _ :: l, e, h => St.shutAll l _ h
  | .func _ :: l, e, h => St.shutAll l _ h
theorem St.shutOps : ∀ (l : List Oper) (e : Env), St τ B wB cB sz e a w → St τ B wB cB sz (Abs.shutOps e l) a w
  | [], e, h => h
  | o :: l, e, h => by
    unfold Abs.shutOps
    split
    · exact St.shutOps l _ (St.shutAll _ _ h)
    · exact St.shutOps l _ h
end
def exitOf : Ex → Exit
  | .normal => .normal
  | .exit id => .exit id
  | .ret => .ret
def KOK (τ : Tab) (B : Nat) (wB : World) (cB : Cls) (sz : Nat) (K : Kont) (r : AV) (Q : Exit → Act → World → Prop) : Prop := ∀ x e a w, K x e = some r → St τ B wB cB sz e a w → Q (exitOf x) a w
section
variable {P : Program} {τ : Tab} {B : Nat} {wB : World} {cB : Cls} {sz n N : Nat} {call : Nat → List AV → Option AV} {ann : Nat → Option (List Nat)} {res : List Nat}
theorem region_sim (hm : P.follows .mixedOrders = true) (hT : TabOK P τ) (hcall : ∀ f l r, call f l = some r → PC P τ f l r) {id : Nat} {ops : Array Oper} {draw : Bool} {e : Env} {a : Act} {w : World} {α : Type} {k : Env → Option α} {r : α} {Q : Exit → Act → World → Prop}
    (hsz : ∀ o ∈ ops.toList, ∀ d, o.dst = some d → d < sz) (h : regRun τ call res ops.toList draw e k = some r) (hst : St τ B wB cB sz e a w) (hQ : ∀ e' a' w', k e' = some r → St τ B wB cB sz e' a' w' → Q .normal a' w') :
    (Code.region id ops draw).wp P Q a w := by
  have hst' := St.shutOps ops.toList _ (hst.weak fun x => cl_weak (e x) : St τ B wB cB sz (clean e) a w)
  cases draw with
  | false =>
    refine wp_region ?_
    have := seq_sim hT hcall rfl hsz _ ops.toList _ 0 a w rfl h hst' hQ
    rw [List.range_eq_range']
    simpa using this
  | true =>
    unfold regRun at h
    simp only at h
    split at h
    · rename_i hh t W hsp
      exact draw_sim hm hT hcall hsz hsp h hst' hQ
    · cases h
theorem run_sim (hm : P.follows .mixedOrders = true) (hT : TabOK P τ) (hcall : ∀ f l r, call f l = some r → PC P τ f l r) (hn : n ≤ sz) {r : AV} : ∀ (cd : Code) (e : Env) (K : Kont) (Q : Exit → Act → World → Prop) (a : Act) (w : World), dstsOk n cd = true →
    run τ ann call res (iter N) cd e K = some r → St τ B wB cB sz e a w → KOK τ B wB cB sz K r Q → cd.wp P Q a w
  | .skip, e, K, Q, a, w, _, h, hst, hK => wp_skip (hK .normal e a w h hst)
  | .region id ops draw, e, K, Q, a, w, hd, h, hst, hK => by
    refine region_sim hm hT hcall (fun o ho d hdd => ?_) h hst fun e' a' w' h' hst' => hK .normal e' a' w' h' hst'
    simp only [dstsOk, List.all_eq_true] at hd
    have := hd o ho
    rw [hdd] at this
    have : d < n := by simpa using this
    exact Nat.lt_of_lt_of_le this hn
  | .seq x y, e, K, Q, a, w, hd, h, hst, hK => by
    simp only [dstsOk, Bool.and_eq_true] at hd
    refine wp_seq (run_sim hm hT hcall hn x e _ _ a w hd.1 h hst fun z e' a' w' h' hst' => ?_)
    cases z with
    | normal => exact run_sim hm hT hcall hn y _ K Q a' w' hd.2 h' hst'.fgJ hK
    | exit j => exact hK (.exit j) e' a' w' h' hst'
    | ret => exact hK .ret e' a' w' h' hst'
  | .cond q x y, e, K, Q, a, w, hd, h, hst, hK => by
    simp only [dstsOk, Bool.and_eq_true] at hd
    obtain ⟨b1, hb, g⟩ := opnd_inv (show opnd e q _ = some r from h)
    obtain ⟨t, e1, g⟩ := asB_inv g
    subst e1
    obtain ⟨c, h1, h2, h3⟩ := hst
    obtain ⟨d, hq⟩ := hb.slot h2
    have hv : a.eval q = .bool t := rep_bool hq
    rcases ifB_inv g with ⟨rfl, g⟩ | ⟨rfl, g⟩
    · exact wp_cond_true hv (run_sim hm hT hcall hn x e K Q a w hd.1 g ⟨c, h1, h2, h3⟩ hK)
    · exact wp_cond_false hv (run_sim hm hT hcall hn y e K Q a w hd.2 g ⟨c, h1, h2, h3⟩ hK)
  | .block id x, e, K, Q, a, w, hd, h, hst, hK => by
    refine wp_block (run_sim hm hT hcall hn x e _ _ a w hd h hst fun z e' a' w' h' hst' => ?_)
    cases z with
    | normal => exact hK .normal e' a' w' h' hst'
    | exit j =>
      have h' : pick2 (Nat.beq j id) (K .normal e') (K (.exit j) e') = some r := h'
      show if j = id then Q .normal a' w' else Q (.exit j) a' w'
      by_cases hj : j = id
      · subst hj
        rw [beq_rfl] at h'
        rw [if_pos rfl]; exact hK .normal e' a' w' h' hst'
      · rw [beq_ne hj] at h'
        rw [if_neg hj]; exact hK (.exit j) e' a' w' h' hst'
    | ret => exact hK .ret e' a' w' h' hst'
  | .loop x, e, K, Q, a, w, hd, h, hst, hK => by
    have key : ∀ (m : Nat) (e : Env) (a : Act) (w : World), iter m (fgOf ann x) (run τ ann call res (iter N) x) K e = some r → St τ B wB cB sz e a w → Code.rounds P x Q m a w := by
      intro m
      induction m with
      | zero => intro e a w h _; cases h
      | succ m ih =>
        intro e a w h hst
        refine run_sim hm hT hcall hn x e _ _ a w hd h hst fun z e' a' w' h' hst' => ?_
        cases z with
        | normal => exact ih _ a' w' h' hst'.fgOf
        | exit j => exact hK (.exit j) e' a' w' h' hst'
        | ret => exact hK .ret e' a' w' h' hst'
    exact wp_loop_rounds N (key N _ a w h hst.fgOf)
  | .exit id, e, K, Q, a, w, _, h, hst, hK => wp_exit (hK (.exit id) e a w h hst)
  | .ret, e, K, Q, a, w, _, h, hst, hK => wp_ret (hK .ret e a w h hst)
  | .rangeFunc .., e, K, Q, a, w, _, h, _, _ => by cases h
  | .scope .., e, K, Q, a, w, _, h, _, _ => by cases h
  | .label .., e, K, Q, a, w, _, h, _, _ => by cases h
  | .goto .., e, K, Q, a, w, _, h, _, _ => by cases h
  | .refuse .., e, K, Q, a, w, _, h, _, _ => by cases h
end
def holdOf : ResultVar → Hold
  | .tmp t => .slot t
  | .cell s _ => .cell s 0
/-- The results' holders hand on. -/
def rehL (B : Nat) (c : Cls) (hs : List Hold) : Cls := fun b => match c b with
  | .own st h => if B ≤ b then (match hs.findIdx? (fun g => decide (g = h)) with | some i => .own st (.ret i) | none => .own st h) else .own st h
  | k => k
section
variable {P : Program} {τ : Tab} {B : Nat} {w : World} {c : Cls} {a : Act} {e : Env}
theorem rehL_stab {hs : List Hold} (b i : Nat) : stab (rehL B c hs) b i ↔ stab c b i := by
  unfold stab rehL
  cases hk : c b with
  | frz => simp
  | box => simp
  | own st g =>
    by_cases hB : B ≤ b
    · simp only [hB, if_true]
      cases hs.findIdx? (fun h => decide (h = g)) <;> exact Iff.rfl
    · simp [hB]
theorem ext_rehL (B : Nat) (w : World) (c : Cls) (hs : List Hold) : Ext B w c w (rehL B c hs) := by
  refine ⟨rfl, rfl, rfl, Nat.le_refl _, fun b hb _ => ⟨rfl, ?_⟩, fun b i v hv hst => ⟨hv, (rehL_stab b i).2 hst⟩⟩
  unfold rehL
  cases hk : c b with
  | frz => rfl
  | box => rfl
  | own st g => simp [Nat.not_le.2 hb]
theorem PartR.rehL {hs : List Hold} (hnd : hs.Nodup) {i : Nat} {h : Hold} {u : Value} {x : AV} (hi : hs[i]? = some h) (hp : PartR B w c h u x) : PartR B w (Abs.rehL B c hs) (.ret i) u x := by
  rcases hp.either with ⟨sz, l, rfl, ho⟩ | hp
  · refine ⟨ho.1.ext (ext_rehL B w c hs), ho.2.imp id ?_⟩
    rintro ⟨b, cap, vs, ty, h1, h2, h3, h4, h5, h6, h7⟩
    refine ⟨b, cap, vs, ty, h1, h2, h3, h4, h5, h6, ?_⟩
    have hf : hs.findIdx? (fun g => decide (g = h)) = some i := by
      rw [List.findIdx?_eq_some_iff_getElem]
      obtain ⟨hl, hg⟩ := List.getElem?_eq_some_iff.1 hi
      refine ⟨hl, by simp [hg], fun j hj => ?_⟩
      simp only [Bool.not_eq_true, decide_eq_false_iff_not]
      intro hh
      exact (List.pairwise_iff_getElem.1 hnd) j i (by omega) hl hj (hh.trans hg.symm)
    unfold Abs.rehL
    simp only [h7, h2, if_true, hf]
  · have := hp.ext (ext_rehL B w c hs)
    cases x <;> first | exact this.elim | exact this
theorem res_one (hT : TabOK P τ) (hs : SRel τ B w c (slots a) e) {rv : ResultVar} {x : AV} (h : resC τ e rv some = some x) :
    ∃ u, (match rv with | .tmp t => pure (a.tmps.getD t undef) | .cell s t => do loadVar t (← asAddr (a.tmps.getD s undef)) : Sem Value).run P w = .ok u w ∧ PartR B w c (holdOf rv) u x := by
  cases rv with
  | tmp t =>
    refine ⟨slots a t, rfl, ?_⟩
    obtain ⟨hne, h⟩ := nz_inv (show nz (e t) _ = some x from h)
    have hst := hs.slot t
    cases het : e t <;> rw [het] at h hst <;> first
      | exact absurd het hne
      | (cases h; exact hst)
      | (cases h; exact hst.1)
      | cases h
  | cell s t =>
    unfold resC at h
    simp only at h
    split at h
    · rename_i z cs m hes
      have hbox := hs.slot s
      rw [hes] at hbox
      split at h
      · rename_i fs sz bb zz hti
        obtain ⟨hz, h⟩ := guardK_inv h
        have hx : loadBox τ t s z cs m 0 some = some x := by
          unfold loadBox
          rw [hti]
          simp only [hz, Nat.beq]
          exact h
        obtain ⟨b, h1, u, h2, h3⟩ := sim_loadBox (d := 0) hT hbox hes hx
        cases h
        refine ⟨u, ?_, h3⟩
        have h1' : a.tmps.getD s undef = .pointer (some ⟨b, 0, none⟩) := h1
        simp [h1', asAddr, h2]
      · cases h
      · rename_i ti hns hna hti
        obtain ⟨hk, h⟩ := guardK_inv h
        obtain ⟨y, hy, h⟩ := getB_inv h
        obtain ⟨hne, h⟩ := nz_inv h
        cases h
        obtain ⟨b, vs, ty, h1, h2, h3, h4⟩ := hbox
        obtain ⟨u, q1, q2⟩ := getB_rep (h1 ▸ ⟨b, vs, ty, h1, h2, h3, h4⟩ : BoxR B w c s (.pointer (some ⟨b, 0, none⟩)) z cs m) ⟨ty, h3⟩ hy
        refine ⟨u, ?_, ?_⟩
        · have h1' : a.tmps.getD s undef = .pointer (some ⟨b, 0, none⟩) := h1
          have ha := agg_of (w := w) hT hti
          have hf : (isAgg t).run P w = .ok false w := by
            obtain ⟨k, sz, bb, zz⟩ := ti
            cases k <;> first
              | exact ha
              | exact (hns _ _ _ _ rfl).elim
              | exact (hna _ _ _ _ _ rfl).elim
              | cases hk
          have hl : w.cell? ⟨b, 0, none⟩ = some u := by rw [cell_of h3]; exact q1
          have hl2 : (loadVar t ⟨b, 0, none⟩).run P w = .ok u w := by
            simp only [loadVar, Sem.run_bind, hf, Result.andThen_ok, Bool.false_eq_true, if_false]
            exact run_load_cell hl
          simp only [h1', asAddr, Sem.run_bind, Sem.run_pure, Result.andThen_ok]
          exact hl2
        · cases x <;> first
            | exact q2
            | exact absurd rfl hne
            | cases q2
      · cases h
    · cases h
theorem resAll_inv {τ : Tab} {e : Env} : ∀ {rs : List ResultVar} {k : List AV → Option AV} {r : AV}, resAll τ e rs k = some r → ∃ l, l.length = rs.length ∧ (∀ (i : Nat) (rv : ResultVar) (x : AV), rs[i]? = some rv → l[i]? = some x → resC τ e rv some = some x) ∧ k l = some r
  | [], k, r, h => ⟨[], rfl, fun i rv x hx => by simp at hx, h⟩
  | rv :: rs, k, r, h => by
    have hn : ∀ (k : AV → Option AV), resC τ e rv k = (resC τ e rv some).bind k := fun k => by
      cases rv with
      | tmp t => show nz (e t) _ = (nz (e t) _).bind k; generalize e t = v; cases v <;> rfl
      | cell s t =>
        unfold resC
        simp only
        split
        · split
          · simp only [guardK_b]; rfl
          · rfl
          · simp only [guardK_b, getB_b, nz_b]; rfl
          · rfl
        · rfl
    have h : resC τ e rv (fun a => resAll τ e rs fun l => k (a :: l)) = some r := h
    rw [hn] at h
    obtain ⟨x, h1, h2⟩ := Option.bind_eq_some_iff.1 h
    obtain ⟨l, q1, q2, q3⟩ := resAll_inv h2
    refine ⟨x :: l, by simp [q1], fun i rv' y hy hy' => ?_, q3⟩
    cases i with
    | zero => simp only [List.getElem?_cons_zero, Option.some.injEq] at hy hy'; subst hy; subst hy'; exact h1
    | succ i => simp only [List.getElem?_cons_succ] at hy hy'; exact q2 i rv' y hy hy'
theorem nodupN_spec : ∀ {l : List Nat}, nodupN l = true → l.Nodup
  | [], _ => by simp
  | x :: r, h => by
    simp only [nodupN, Bool.and_eq_true] at h
    rw [List.nodup_cons]
    refine ⟨fun hm => ?_, nodupN_spec h.2⟩
    have h1 : (r.any fun y => Nat.beq x y) = false := by simpa using h.1
    rw [List.any_eq_false] at h1
    exact absurd (by simp) (h1 x hm)
theorem holds_nodup : ∀ {rs : List ResultVar}, (rs.map resKey).Nodup → (rs.map holdOf).Nodup
  | [], _ => by simp
  | rv :: rs, h => by
    rw [List.map_cons, List.nodup_cons] at h ⊢
    refine ⟨fun hm => h.1 ?_, holds_nodup h.2⟩
    obtain ⟨rv', h1, h2⟩ := List.mem_map.1 hm
    refine List.mem_map.2 ⟨rv', h1, ?_⟩
    cases rv <;> cases rv' <;> simp [holdOf, resKey] at h2 ⊢ <;> rw [h2]
theorem run_mapM {β : Type} {f : β → Sem Value} : ∀ (l : List β) (us : List Value), us.length = l.length → (∀ (i : Nat) (x : β) (u : Value), l[i]? = some x → us[i]? = some u → (f x).run P w = .ok u w) → (l.mapM f).run P w = .ok us w
  | [], us, h, _ => by obtain rfl := List.eq_nil_of_length_eq_zero h; simp
  | x :: l, [], h, _ => by cases h
  | x :: l, u :: us, h, hf => by
    have h1 := hf 0 x u rfl rfl
    have h2 := run_mapM l us (by simpa using h) fun i y v hy hv => hf (i + 1) y v (by simpa using hy) (by simpa using hv)
    simp [List.mapM_cons, h1, h2]
theorem results_sim (hT : TabOK P τ) {fn : Func} {r : AV} (hnd : nodupN (fn.results.toList.map resKey) = true) (hs : SRel τ B w c (slots a) e) (h : resAll τ e fn.results.toList oneOf = some r) :
    ∃ v, (results fn a.tmps).run P w = .ok v w ∧ ResR B w (rehL B c (fn.results.toList.map holdOf)) v r := by
  obtain ⟨l, h1, h2, h3⟩ := resAll_inv h
  have hnd' := holds_nodup (nodupN_spec hnd)
  -- what each comes to
  have hall : ∀ i, i < fn.results.toList.length → ∃ u, (∀ rv, fn.results.toList[i]? = some rv → (match rv with | .tmp t => pure (a.tmps.getD t undef) | .cell s t => do loadVar t (← asAddr (a.tmps.getD s undef)) : Sem Value).run P w = .ok u w) ∧
      ∀ x, l[i]? = some x → PartR B w (rehL B c (fn.results.toList.map holdOf)) (.ret i) u x := fun i hi => by
    have hrv : fn.results.toList[i]? = some fn.results.toList[i] := List.getElem?_eq_getElem hi
    have hx : l[i]? = some (l[i]'(by omega)) := List.getElem?_eq_getElem (by omega)
    obtain ⟨u, q1, q2⟩ := res_one hT hs (h2 i _ _ hrv hx)
    refine ⟨u, fun rv hrv' => ?_, fun x hx' => ?_⟩
    · rw [hrv] at hrv'; cases hrv'; exact q1
    · rw [hx] at hx'; cases hx'
      exact q2.rehL hnd' (by rw [List.getElem?_map, hrv]; rfl)
  obtain ⟨us, hlen, hus⟩ : ∃ us : List Value, us.length = fn.results.toList.length ∧ ∀ (i : Nat) (u : Value), us[i]? = some u → (∀ rv, fn.results.toList[i]? = some rv → (match rv with | .tmp t => pure (a.tmps.getD t undef) | .cell s t => do loadVar t (← asAddr (a.tmps.getD s undef)) : Sem Value).run P w = .ok u w) ∧
      ∀ x, l[i]? = some x → PartR B w (rehL B c (fn.results.toList.map holdOf)) (.ret i) u x := by
    refine ⟨(List.range fn.results.toList.length).map fun i => if hi : i < fn.results.toList.length then (hall i hi).choose else undef, by simp, fun i u hu => ?_⟩
    rw [List.getElem?_map] at hu
    by_cases hi : i < fn.results.toList.length
    · rw [List.getElem?_range hi] at hu
      simp only [Option.map_some, hi, dif_pos, Option.some.injEq] at hu
      subst hu
      exact (hall i hi).choose_spec
    · rw [List.getElem?_eq_none (by simpa using hi)] at hu; cases hu
  have hrun := run_mapM (P := P) (w := w) fn.results.toList us hlen fun i rv u hrv hu => (hus i u hu).1 rv hrv
  have hres : (results fn a.tmps).run P w = .ok (if h : us.toArray.size = 1 then us.toArray[0] else .tuple us.toArray) w := by
    unfold results
    rw [Array.mapM_eq_mapM_toList]
    simp only [Sem.run_bind, Sem.run_map, Sem.run_pure]
    have key : ∀ (X : Result (List Value)), X = .ok us w → ((X.andThen fun a w' => Result.ok a.toArray w').andThen fun (a : Array Value) w' => Result.ok (if h : a.size = 1 then a[0] else Value.tuple a) w') = .ok (if h : us.toArray.size = 1 then us.toArray[0] else .tuple us.toArray) w := by
      rintro _ rfl; rfl
    exact key _ hrun
  refine ⟨_, hres, ?_⟩
  by_cases h1' : us.length = 1
  · obtain ⟨x, hx⟩ : ∃ x, l = [x] := List.length_eq_one_iff.1 (by omega)
    subst hx
    cases h3
    have hu0 : us[0]? = some (us[0]'(by omega)) := List.getElem?_eq_getElem (by omega)
    have hp := (hus 0 _ hu0).2 r rfl
    rw [dif_pos (by simpa using h1')]
    show ResR B w _ (us[0]'(by omega)) r
    cases r <;> first
      | exact hp
      | exact (hp : False).elim
  · have hr : r = .tup l := by
      cases l with
      | nil => cases h3; rfl
      | cons x l => cases l with
        | nil => exact absurd (by rw [hlen, ← h1]; rfl) h1'
        | cons y l => cases h3; rfl
    subst hr
    rw [dif_neg (by simpa using h1')]
    exact ⟨us.toArray, rfl, by simp [hlen, h1], fun i x u hx hu => (hus i u (by simpa using hu)).2 x hx⟩
/-- What is asked of the whole: its tables are the program's, its functions are the program's, and what was proved elsewhere was proved. -/
structure SysOK (P : Program) (S : Sys) : Prop where
  tab : TabOK P S.τ
  fol : P.follows .mixedOrders = true
  or : ∀ f g, S.O f = some g → ∀ l r, g l = some r → PC P S.τ f l r
  fn : ∀ f d, S.F f = some d → ∃ fn, P.funcs[f]? = some fn ∧ toFD fn = some d
theorem look_argEnv : ∀ (l : List AV) (n d : Nat), look (argEnv n l) d = if n ≤ d then (l[d - n]?).getD .undef else .undef
  | [], n, d => by simp [argEnv, look]
  | x :: l, n, d => by
    simp only [argEnv, look]
    by_cases h : d = n
    · subst h; simp [pick2]
    · rw [beq_ne h]
      show look (argEnv (n + 1) l) d = _
      rw [look_argEnv l (n + 1) d]
      by_cases h1 : n + 1 ≤ d
      · rw [if_pos h1, if_pos (by omega), show d - n = (d - (n + 1)) + 1 by omega]; simp
      · rw [if_neg h1, if_neg (by omega)]
/-- What a call comes to in the interpreter it comes to on the machine. -/
theorem acall_sim {S : Sys} (hS : SysOK P S) : ∀ (n f : Nat) (l : List AV) (r : AV), acall S n f l = some r → PC P S.τ f l r
  | 0, f, l, r, h => by cases h
  | n + 1, f, l, r, h => by
    unfold acall at h
    split at h
    · rename_i g hO
      exact hS.or f g hO l r h
    · split at h
      · rename_i d hF
        obtain ⟨fn, hf, hfd⟩ := hS.fn f d hF
        unfold toFD at hfd
        cases hb : fn.body with
        | none => rw [hb] at hfd; cases hfd
        | some cd =>
        rw [hb] at hfd
        simp only at hfd
        cases hok : (dstsOk fn.ntmps cd && nodupN (fn.results.toList.map resKey) && !(fn.name == "runtime.NumGoroutine")) with
        | false => rw [hok] at hfd; cases hfd
        | true =>
        rw [hok] at hfd
        cases hfd
        simp only [Bool.and_eq_true] at hok
        obtain ⟨⟨hds, hnd⟩, hnm⟩ := hok
        intro w c vs hg hsz hargs
        refine .inl ⟨?_, ?_⟩
        · have : ¬ fn.name = "runtime.NumGoroutine" := by simpa using hnm
          simp [callFunc, hf, this, hb]
        · have hst : St S.τ w.heap.size w c (vs ++ Array.replicate (fn.ntmps - vs.size) undef).size (look (argEnv 0 l)) { tmps := vs ++ Array.replicate (fn.ntmps - vs.size) undef, defers := [] } w := by
            refine ⟨c, Ext.refl .., ⟨Nat.le_refl _, hg, fun d => ?_⟩, rfl, rfl⟩
            rw [look_argEnv, if_pos (Nat.zero_le _), Nat.sub_zero]
            cases hd : l[d]? with
            | none => trivial
            | some x =>
              have hdl : d < vs.size := by rw [hsz]; exact (List.getElem?_eq_some_iff.1 hd).1
              have hv : vs[d]? = some vs[d] := by simp [hdl]
              have hslot : slots { tmps := vs ++ Array.replicate (fn.ntmps - vs.size) undef, defers := [] } d = vs[d] := by
                unfold slots
                rw [Array.getD_eq_getD_getElem?, Array.getElem?_append_left hdl, hv]; rfl
              rw [hslot]
              have hax := hargs d _ x hv hd
              generalize vs[d] = u at hax
              rcases hax with hp | hp
              · exact hp.slot
              · cases x <;> first
                  | exact hp
                  | trivial
                  | cases hp
          refine calls_of_wp hf hb ?_
          refine run_sim (n := fn.ntmps) hS.fol hS.tab (fun f l r h => acall_sim hS n f l r h) (by simp; omega) cd _ _ _ _ w hds h hst fun z e a w' hK hst' => ?_
          obtain ⟨c', q1, q2, q3, q4⟩ := hst'
          have hfin : resAll S.τ e fn.results.toList oneOf = some r → bodyPost P fn (fun x w' => ∃ v, x = .returned v ∧ ∃ c', Ext w.heap.size w c w' c' ∧ ResR w.heap.size w' c' v r) .normal a w' := fun hr => by
            obtain ⟨v, p1, p2⟩ := results_sim hS.tab hnd q2 hr
            exact ⟨q4, v, p1, v, rfl, _, q1.trans (ext_rehL ..), p2⟩
          cases z with
          | normal => exact hfin hK
          | ret => exact hfin hK
          | exit j => cases hK
      · cases h
end
def zeroChk1 (u : Value) (a : AV) : Bool := match a, u with
  | .own _ [], .slice none 0 0 => true
  | .sl _ [], .slice none 0 0 => true
  | .bool b, .bool c => b == c
  | .int k n, .int k' n' => ikeq k k' && decide (n = n')
  | .str s, .string s' => decide (s'.data.toList = s)
  | .undef, u => u.oneCell'
  | _, _ => false
def zeroChk : List Value → List AV → Bool
  | u :: us, a :: as_ => zeroChk1 u a && zeroChk us as_
  | _, _ => true
def fieldChk (P : Program) (S : Nat) : List Field → List (Nat × Nat) → Bool
  | [], [] => true
  | f :: fs, (o, t) :: r => Nat.beq f.offset o && Nat.beq f.type t && (match P.info? f.type with | some i => Nat.blt 0 i.size && Nat.ble (f.offset + i.size) S | none => false) && fieldChk P S fs r
  | _, _ => false
def kindChk (P : Program) (ti : TI) (u : Option TypeDesc) : Bool := match ti.k, u with
  | .bool, some .bool => Nat.beq ti.sz 1
  | .int k, some (.int k') => ikeq k' k && Nat.beq ti.sz 1
  | .str, some .string => Nat.beq ti.sz 1
  | .slice e, some (.slice e') => Nat.beq e' e && Nat.beq ti.sz 1 && (match P.info? e with | some i => Nat.ble i.bytes 128 | none => true)
  | .struct fs, some (.struct F) => fieldChk P ti.sz F.toList fs
  | .func, some (.func _ _ _) => Nat.beq ti.sz 1
  | .tuple _, _ => true
  | .array n e, some (.array n' e') => Nat.beq n' n && Nat.beq e' e
  | _, _ => false
def tyChk (P : Program) (t : Nat) (ti : TI) : Bool := match P.info? t with
  | none => false
  | some i => (match i.zero with
    | none => false
    | some z => Nat.beq i.size ti.sz && Nat.beq i.bytes ti.bytes && Nat.beq z.cells.size ti.sz && Nat.beq ti.zero.length ti.sz && zeroChk z.cells.toList ti.zero && Nat.blt 0 ti.sz && kindChk P ti (P.underlying t))
theorem zeroChk1_ok {u : Value} {a : AV} (h : zeroChk1 u a = true) : ZeroR u a := by
  unfold zeroChk1 at h
  split at h
  · exact rfl
  · intro w c; exact .nil _
  · obtain rfl := eq_of_beq h; intro w c; exact .bool _
  · simp only [Bool.and_eq_true, decide_eq_true_eq] at h
    obtain ⟨h1, rfl⟩ := h
    obtain rfl := ikeq_eq h1
    intro w c; exact .int _ _
  · obtain rfl := of_decide_eq_true h
    intro w c; exact .str _
  · intro w c; exact .undef _ h
  · cases h
theorem zeroChk_ok : ∀ {us : List Value} {l : List AV}, zeroChk us l = true → ∀ (j : Nat) (u : Value) (a : AV), us[j]? = some u → l[j]? = some a → ZeroR u a
  | [], _, _, j, u, a, h, _ => by simp at h
  | _ :: _, [], _, j, u, a, _, h => by simp at h
  | u' :: us, a' :: l, h, j, u, a, h1, h2 => by
    simp only [zeroChk, Bool.and_eq_true] at h
    cases j with
    | zero => simp only [List.getElem?_cons_zero, Option.some.injEq] at h1 h2; subst h1; subst h2; exact zeroChk1_ok h.1
    | succ j => exact zeroChk_ok h.2 j u a (by simpa using h1) (by simpa using h2)
theorem fieldChk_ok {P : Program} {S : Nat} : ∀ {F : List Field} {fs : List (Nat × Nat)}, fieldChk P S F fs = true → fs = F.map (fun f => (f.offset, f.type)) ∧ ∀ f ∈ F, ∃ fi, P.info? f.type = some fi ∧ 0 < fi.size ∧ f.offset + fi.size ≤ S
  | [], [], _ => ⟨rfl, fun f hf => by cases hf⟩
  | [], _ :: _, h => by cases h
  | _ :: _, [], h => by cases h
  | f :: F, (o, t) :: fs, h => by
    simp only [fieldChk, Bool.and_eq_true] at h
    obtain ⟨⟨⟨h1, h2⟩, h3⟩, h4⟩ := h
    obtain ⟨k1, k2⟩ := fieldChk_ok h4
    refine ⟨?_, fun g hg => ?_⟩
    · rw [List.map_cons, ← k1, Nat.eq_of_beq_eq_true h1, Nat.eq_of_beq_eq_true h2]
    · rcases List.mem_cons.1 hg with rfl | hg
      · split at h3
        · rename_i i hi
          simp only [Bool.and_eq_true] at h3
          exact ⟨i, hi, by simpa using h3.1, by simpa using h3.2⟩
        · cases h3
      · exact k2 g hg
theorem tyChk_ok {P : Program} {t : Nat} {ti : TI} (h : tyChk P t ti = true) : TyOK P t ti := by
  unfold tyChk at h
  split at h
  · cases h
  · rename_i i hi
    split at h
    · cases h
    · rename_i z hz
      simp only [Bool.and_eq_true] at h
      obtain ⟨⟨⟨⟨⟨⟨h1, h2⟩, h3⟩, h4⟩, h5⟩, h6⟩, h7⟩ := h
      refine ⟨⟨i, z, hi, Nat.eq_of_beq_eq_true h1, Nat.eq_of_beq_eq_true h2, hz, Nat.eq_of_beq_eq_true h3, Nat.eq_of_beq_eq_true h4, fun j u a hu ha => zeroChk_ok h5 j u a (by simpa using hu) ha⟩, by simpa using h6, ?_⟩
      unfold kindChk at h7
      obtain ⟨k, sz, by_, ze⟩ := ti
      simp only at h7 ⊢
      split at h7 <;> rename_i hu
      · exact ⟨hu, Nat.eq_of_beq_eq_true h7⟩
      · simp only [Bool.and_eq_true] at h7
        obtain rfl := ikeq_eq h7.1
        exact ⟨hu, Nat.eq_of_beq_eq_true h7.2⟩
      · exact ⟨hu, Nat.eq_of_beq_eq_true h7⟩
      · simp only [Bool.and_eq_true] at h7
        obtain rfl := Nat.eq_of_beq_eq_true h7.1.1
        refine ⟨⟨hu, fun ei he => ?_⟩, Nat.eq_of_beq_eq_true h7.1.2⟩
        have h8 := h7.2
        rw [he] at h8
        simpa using h8
      · obtain ⟨k1, k2⟩ := fieldChk_ok h7
        exact ⟨_, hu, k1, k2⟩
      · exact ⟨⟨_, _, _, hu⟩, Nat.eq_of_beq_eq_true h7⟩
      · trivial
      · simp only [Bool.and_eq_true] at h7
        obtain rfl := Nat.eq_of_beq_eq_true h7.1
        obtain rfl := Nat.eq_of_beq_eq_true h7.2
        exact hu
      · cases h7
/-- A table of n types, checked. -/
def tabChk (P : Program) (T : Nat → Option TI) : Nat → Bool
  | 0 => true
  | n + 1 => (match T n with | some ti => tyChk P n ti | none => true) && tabChk P T n
theorem tabChk_ok {P : Program} {T : Nat → Option TI} : ∀ {n : Nat}, tabChk P T n = true → ∀ t ti, t < n → T t = some ti → TyOK P t ti
  | 0, _, t, ti, h, _ => by omega
  | n + 1, h, t, ti, hlt, ht => by
    simp only [tabChk, Bool.and_eq_true] at h
    by_cases hn : t = n
    · subst hn
      rw [ht] at h
      exact tyChk_ok h.1
    · exact tabChk_ok h.2 t ti (by omega) ht
theorem tabOK_of {P : Program} {T : Nat → Option TI} {n : Nat} {τ : Tab} (hτ : τ.T = fun t => pick2 (Nat.blt t n) (T t) none) (h : tabChk P T n = true) : TabOK P τ := fun t ti ht => by
  rw [hτ] at ht
  have ht : pick2 (Nat.blt t n) (T t) none = some ti := ht
  cases hb : Nat.blt t n with
  | false => rw [hb] at ht; cases ht
  | true => rw [hb] at ht; exact tabChk_ok h t ti (by simpa using hb) ht
/-- The contract of a function. -/
theorem contract {P : Program} {S : Sys} (hS : SysOK P S) {f : Nat} {l : List AV} {r : AV} (h : ωκ S f l = some r) : PC P S.τ f l r := by
  rw [ωκ_eq] at h
  obtain ⟨n, hn⟩ := ω_some.1 h
  exact acall_sim hS n f l r hn
end Go.Proofs.YtmdimhcjogjcgaaGreatDoor.Abs
