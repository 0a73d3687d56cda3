/- What 'append' takes; the cells of boxes. -/
import Derived.Test.YtmdimhcjogjcgaaGreatDoorMC
import Derived.Orders
set_option linter.unusedVariables false
set_option linter.unusedSimpArgs false
set_option linter.unusedSectionVars false
set_option linter.deprecated false
set_option linter.unnecessarySimpa false
namespace Go.Proofs.YtmdimhcjogjcgaaGreatDoor.Abs
open Go.RowKit
theorem ovr_del (m : List (Nat × AV)) (off j : Nat) : ovr (delO m off) j = if off = j then none else ovr m j := by
  induction m with
  | nil => simp [delO, ovr]
  | cons x m ih =>
    obtain ⟨q, y⟩ := x
    by_cases hq : q = off
    · subst hq
      simp only [delO, beq_rfl, pick2, ih, ovr]
      by_cases hj : q = j
      · simp [hj]
      · simp [hj, beq_ne hj]
    · simp only [delO, beq_ne hq, pick2, ovr]
      by_cases hj : q = j
      · subst hj; simp [Ne.symm hq]
      · simp only [beq_ne hj]; exact ih
theorem ovr_cons (m : List (Nat × AV)) (off j : Nat) (y : AV) : ovr ((off, y) :: m) j = if off = j then some y else ovr m j := by
  simp only [ovr]
  by_cases hj : off = j
  · subst hj; simp [pick2]
  · simp [hj, beq_ne hj, pick2]
theorem ovr_put (m : List (Nat × AV)) (off j : Nat) (y : AV) : ovr ((off, y) :: delO m off) j = if off = j then some y else ovr m j := by
  rw [ovr_cons, ovr_del]; split <;> rfl
theorem ovr_putM : ∀ (l : List AV) (o j : Nat) (m : List (Nat × AV)), ovr (putM o l m) j = if o ≤ j ∧ j < o + l.length then l[j - o]? else ovr m j
  | [], o, j, m => by simp [putM]; intro h1 h2; omega
  | y :: l, o, j, m => by
    rw [putM, ovr_putM l (o + 1) j, ovr_put]
    by_cases h1 : o = j
    · subst h1
      rw [if_neg (by omega), if_pos rfl, if_pos (by simp)]; simp
    · by_cases h2 : o + 1 ≤ j ∧ j < o + 1 + l.length
      · rw [if_pos h2, if_pos (by simp only [List.length_cons]; omega), show j - o = (j - (o + 1)) + 1 by omega]; simp
      · rw [if_neg h2, if_neg h1, if_neg (by simp only [List.length_cons]; omega)]
theorem klc_weak (d : Nat) (a : AV) : Weak a (klc d a) := by
  cases a <;> first
    | exact .refl _
    | skip
  case vwc q o z l => show Weak _ (pick2 _ _ _); cases Nat.beq q d <;> first | exact .refl _ | exact .vwc ..
theorem klc_no (d : Nat) (a : AV) : ∀ o z l, klc d a ≠ .vwc d o z l := by
  cases a <;> first
    | (intro o z l; simp [klc]; done)
    | skip
  case vwc q o z l =>
    by_cases h : q = d
    · subst h; simp [klc, pick2]
    · simp [klc, pick2, beq_ne h, h]
theorem Weak.trans {x y z : AV} (h : Weak x y) (k : Weak y z) : Weak x z := by cases h <;> cases k <;> constructor
theorem Weak.eq_vw {x : AV} {q z : Nat} {l : List (List AV)} (h : Weak x (.vw q z l)) : x = .vw q z l := by cases h; rfl
theorem Weak.eq_fptr {x : AV} {q o : Nat} (h : Weak x (.fptr q o)) : x = .fptr q o := by cases h; rfl
section
variable {P : Program} {τ : Tab} {B : Nat} {w : World} {c : Cls} {a : Act} {e : Env} {o : Oper} {d : Nat} {v : AV} {call : Nat → List AV → Option AV}
theorem OwnR.keep {w' : World} {c' : Cls} {h : Hold} {u : Value} {sz : Nat} {l : List (List AV)} (hx : Ext B w c w' c') (hk : ∀ q st, c q = .own st h → w'.heap[q]? = w.heap[q]? ∧ c' q = c q) (ho : OwnR B w c h u sz l) : OwnR B w' c' h u sz l := by
  refine ⟨ho.1.ext hx, ho.2.imp id ?_⟩
  rintro ⟨b, cap, vs, ty, h1, h2, h3, h4, h5, h6, h7⟩
  obtain ⟨k1, k2⟩ := hk b _ h7
  exact ⟨b, cap, vs, ty, h1, h2, k1.trans h3, h4, h5, h6, k2.trans h7⟩
/-- A box anew. -/
theorem SRel.reput {w' : World} {c' : Cls} {T : Nat → Value} {e0 e' : Env} {z z' : Nat} {cs cs' : List AV} {m m' : List (Nat × AV)} (h0 : SRel τ B w' c' T e0) (hs : SRel τ B w c T e) (hd : e d = .boxv z cs m) (hd' : e' d = .boxv z' cs' m')
    (hb : BoxR B w' c' d (T d) z' cs' m') (hw0 : ∀ s, s ≠ d → Weak (e s) (e0 s)) (hw : ∀ s, s ≠ d → Weak (e0 s) (e' s)) (hn : ∀ s, s ≠ d → ∀ o z l, e' s ≠ .vwc d o z l) : SRel τ B w' c' T e' := by
  refine ⟨h0.base, h0.g, fun s => ?_⟩
  by_cases hsd : s = d
  · subst hsd
    rw [hd']
    exact hb
  · by_cases hv : ∃ z l, e' s = .vw d z l
    · obtain ⟨z2, l2, hv⟩ := hv
      have h1 : e0 s = .vw d z2 l2 := (hv ▸ hw s hsd).eq_vw
      have := h0.slot s
      rw [h1] at this
      rw [hv]
      exact ⟨this.1, fun z l hx => by rw [hd'] at hx; cases hx⟩
    by_cases hf : ∃ o, e' s = .fptr d o
    · obtain ⟨o, hf⟩ := hf
      have h1 : e0 s = .fptr d o := (hf ▸ hw s hsd).eq_fptr
      have h2 : e s = .fptr d o := (h1 ▸ hw0 s hsd).eq_fptr
      have := hs.slot s
      rw [h2] at this
      rw [hf]
      intro z2 cs2 m2 _
      exact this z cs m hd
    · refine (h0.slot s).weak (hw s hsd) fun q hq => ?_
      by_cases hqd : q = d
      · subst hqd
        rcases hq with ⟨o, hx⟩ | ⟨z, l, hx⟩ | ⟨o, z, l, hx⟩
        · exact absurd ⟨o, hx⟩ hf
        · exact absurd ⟨z, l, hx⟩ hv
        · exact absurd hx (hn s hsd o z l)
      · exact .inl ⟨hw q hqd, rfl⟩
theorem getB_rep {j : Nat} {cs : List AV} {m : List (Nat × AV)} {z : Nat} {b : Nat} {vs : Array Value} {y : AV} (hb : BoxR B w c d (.pointer (some ⟨b, 0, none⟩)) z cs m) (hv : ∃ ty, w.heap[b]? = some (.cells vs ty (0, 0)))
    (hy : ovr m j = some y ∨ (ovr m j = none ∧ cs[j]? = some y)) : ∃ u, vs[j]? = some u ∧ CellR B w c d j u y := by
  obtain ⟨b', vs', ty', e1, _, h3, _, h5, h6, h7, h8, h9⟩ := hb
  cases e1
  obtain ⟨ty, hv⟩ := hv
  rw [h3] at hv; cases hv
  rcases hy with hy | ⟨hn, hy⟩
  · have hj := h9 j y hy
    have : vs[j]? = some vs[j] := by simp [h5, hj]
    exact ⟨_, this, h8 j y _ hy this⟩
  · have hj : j < z := by rw [← h6]; exact (List.getElem?_eq_some_iff.1 hy).1
    obtain ⟨u, this⟩ : ∃ u, vs[j]? = some u := ⟨vs[j], by simp [h5, hj]⟩
    have hr := h7 j y _ hn hy this
    refine ⟨_, this, ?_⟩
    cases y <;> first | exact hr | cases hr
/-- The holder that 'append' takes. -/
theorem take_sim {sz : Nat} {x : Operand} {α : Type} {r : α} {k : List (List AV) → Env → Option α} (hs : SRel τ B w c (slots a) e) (h : takeH e sz x k = some r) :
    ∃ l e1 H, k l e1 = some r ∧ SRel τ B w c (slots a) e1 ∧ OwnR B w c H (a.eval x) sz l ∧ ¬ Live e1 H := by
  unfold takeH at h
  split at h
  · rename_i s
    have hso := hs.slot s
    cases hes : e s <;> rw [hes] at h hso <;> first
      | cases h
      | skip
    · have hq : Rep w c _ .nil := hso
      refine ⟨[], e, .ret 0, h, hs, ?_, fun hh => hh⟩
      rw [eval_tmp]
      generalize slots a s = u at *
      cases hq
      exact ⟨.nil _, .inl ⟨rfl, rfl⟩⟩
    · rename_i z l
      obtain ⟨hz, g⟩ := guardK_inv h
      obtain rfl := Nat.eq_of_beq_eq_true hz
      refine ⟨l, _, .slot s, g, hs.weak fun t => ?_, hso, ?_⟩
      · by_cases ht : t = s
        · subst ht; rw [set_same, hes]; exact .own ..
        · rw [set_ne _ _ ht]; exact .refl _
      · rintro ⟨z', l', hx⟩
        rw [set_same] at hx; cases hx
    · rename_i q z0 l0
      obtain ⟨l, hq, g⟩ := asO_inv (show asO sz (e q) _ = some r from h)
      have hqo := hs.slot q
      rw [hq] at hqo
      have hsq : slots a s = slots a q := hso.2 sz l hq
      have hqs : q ≠ s := fun hh => by rw [hh, hes] at hq; cases hq
      have h1 : SRel τ B w c (slots a) (Abs.set e q (.sl sz l)) := hs.weak fun t => by
        by_cases ht : t = q
        · subst ht; rw [set_same, hq]; exact .own ..
        · rw [set_ne _ _ ht]; exact .refl _
      refine ⟨l, _, .slot q, g, h1.again (d := s) (v := .sl sz l) (by rw [hsq]; exact hqo.1) rfl rfl, by rw [eval_tmp, hsq]; exact hqo, ?_⟩
      rintro ⟨z', l', hx⟩
      rw [set_ne _ _ hqs, set_same] at hx; cases hx
    · rename_i q off z0 l0
      have h : (match e q with
        | .boxv bz c m => getB c m off fun a => asO sz a fun l => k l (set (killc q (set e q (.boxv bz c ((off, .sl sz l) :: delO m off)))) s (.sl sz l))
        | _ => none) = some r := h
      split at h
      · rename_i bz cs m heq
        obtain ⟨y, hy, g⟩ := getB_inv h
        obtain ⟨l, e1, g0⟩ := asO_inv g
        subst e1
        have hqo := hs.slot q
        rw [heq] at hqo
        obtain ⟨b, vs, ty, h1, h2, h3, h4, h5, h6, h7, h8, h9⟩ := hqo
        have hbox : BoxR B w c q (slots a q) bz cs m := ⟨b, vs, ty, h1, h2, h3, h4, h5, h6, h7, h8, h9⟩
        have hy' : ovr m off = some (.own sz l) := by
          rcases hy with hy | ⟨hn, hy⟩
          · exact hy
          · obtain ⟨u, _, hu⟩ := getB_rep (h1 ▸ hbox) ⟨ty, h3⟩ (.inr ⟨hn, hy⟩)
            have hj : off < bz := by rw [← h6]; exact (List.getElem?_eq_some_iff.1 hy).1
            obtain ⟨u0, hu0⟩ : ∃ u, vs[off]? = some u := ⟨vs[off], by simp [h5, hj]⟩
            have := h7 off _ u0 hn hy hu0
            cases this
        obtain ⟨b', g1, g2⟩ := hso.2 bz cs m sz l heq hy'
        rw [h1] at g1; cases g1
        rw [cell_of h3] at g2
        have hown : OwnR B w c (.cell q off) (slots a s) sz l := h8 off _ _ hy' g2
        have hqs : q ≠ s := fun hh => by rw [hh, hes] at heq; cases heq
        have hnew : SRel τ B w c (slots a) (killc q (Abs.set e q (.boxv bz cs ((off, .sl sz l) :: delO m off)))) := by
          refine SRel.reput (e0 := e) (z' := bz) (cs' := cs) (m' := (off, .sl sz l) :: delO m off) hs hs heq (by show klc q _ = _; rw [set_same]; rfl) ⟨b, vs, ty, h1, h2, h3, h4, h5, h6, fun j x u p1 p2 p3 => ?_, fun j x u p1 p2 => ?_, fun j x p1 => ?_⟩ (fun s _ => .refl _) (fun s hs => ?_) (fun s hs => ?_)
          · rw [ovr_put] at p1
            split at p1
            · cases p1
            · exact h7 j x u p1 p2 p3
          · rw [ovr_put] at p1
            split at p1
            · rename_i hj
              cases p1
              subst hj
              rw [g2] at p2; cases p2
              exact hown.1
            · exact h8 j x u p1 p2
          · rw [ovr_put] at p1
            split at p1
            · rename_i hj; subst hj; exact h9 _ _ hy'
            · exact h9 j x p1
          · show Weak _ (klc q _)
            rw [set_ne _ _ hs]; exact klc_weak ..
          · show ∀ o z l, klc q _ ≠ _
            exact klc_no _ _
        refine ⟨l, _, .cell q off, g0, hnew.again (d := s) (v := .sl sz l) hown.1 rfl rfl, by rw [eval_tmp]; exact hown, ?_⟩
        rintro ⟨z', cs', m', s', l', hx, hx'⟩
        rw [set_ne _ _ hqs] at hx
        have : klc q (Abs.set e q (.boxv bz cs ((off, .sl sz l) :: delO m off)) q) = _ := hx
        rw [set_same] at this
        cases this
        rw [ovr_put, if_pos rfl] at hx'
        cases hx'
      · cases h
  · exact ⟨[], e, .ret 0, h, hs, ⟨.nil _, .inl ⟨rfl, rfl⟩⟩, fun hh => hh⟩
  · cases h
theorem sim_append (hT : TabOK P τ) {x y : Operand} {t0 t1 : Nat} {e' : Env} (ho : o.op = .call ⟨.builtin .append, ⟨[x, y]⟩, ⟨[t0, t1]⟩⟩) (hs : SRel τ B w c (slots a) e) (hd : ∀ d, o.dst = some d → d < a.tmps.size)
    (h : guardK (Nat.beq t0 t1) (sliceSz τ t0 fun sz => opnd e y fun b => asL sz b fun ys => takeH e sz x fun l e' => guardK (Nat.ble (l.length + ys.length) lim) (some (setH e' o.dst (.own sz (l ++ ys))))) = some e') :
    Steps P o a w (After τ B a w c e') := by
  obtain ⟨ht, g⟩ := guardK_inv h
  obtain rfl := Nat.eq_of_beq_eq_true ht
  obtain ⟨el, s, bb, z, ti, hti, hte, g⟩ := sliceSz_inv g
  obtain ⟨b1, hb, g⟩ := opnd_inv g
  obtain ⟨q, hq⟩ := hb.slot hs
  obtain ⟨ys, hys, g⟩ := asL_inv g
  have hy := hq.isL hys
  obtain ⟨l, e1, H, g, hs1, hown, hn⟩ := take_sim hs g
  obtain ⟨hlim, g⟩ := guardK_inv g
  have hlim : l.length + ys.length ≤ lim := by simpa using hlim
  cases g
  obtain ⟨i, zv, h1, h2, h3, h4, h5, h6, h7⟩ := (hT el _ hte).info
  obtain ⟨v', w', c', hr, hx, hs', ho'⟩ := append_core (d := o.dst.getD 0) (ty := o.type) hs1 hn hown hy (slice_of hT hti) h1 h4 h2 h5 (hT el _ hte).pos ((hT t0 _ hti).kind.1.2 i h1) hlim
  refine (Does.value (R := fun u' w2 => u' = v' ∧ w2 = w') (u := v') (w' := w') ?_ ⟨rfl, rfl⟩).steps fun u' w2 hu => ?_
  · simp only [execOp, ho, resolve, invoke, builtin, Sem.run_bind, Sem.run_pure, Result.andThen_ok, List.map_toArray, List.map_cons, List.map_nil, hr]
  · obtain ⟨rfl, rfl⟩ := hu
    refine ⟨c', hx, ?_, put_size, put_defers⟩
    cases hdst : o.dst with
    | none => exact hs'
    | some d =>
      rw [hdst] at ho'
      rw [slots_put (hd d hdst)]
      exact hs'.setH (v := .own ti.sz (l ++ ys)) ho'
end
section
variable {P : Program} {τ : Tab} {B : Nat} {w : World} {c : Cls} {a : Act} {e : Env} {o : Oper} {d : Nat} {v : AV} {call : Nat → List AV → Option AV}
theorem run_store {t sz b off : Nat} {vs : Array Value} {ty : TypeId} {u : Value} (hsz : (sizeOf t).run P w = .ok sz w) (hb : w.heap[b]? = some (.cells vs ty (0, 0))) (hu : u.cells.size = sz) (hfit : off + sz ≤ vs.size) (h1 : ∀ y ∈ u.cells.toList, y.oneCell' = true) :
    (Instr.storeAt t (.pointer (some ⟨b, off, none⟩)) u).run P w = .ok () (w.setRow b (vs.toList.take off ++ u.cells.toList ++ vs.toList.drop (off + sz)).toArray) := by
  have hst := run_storeCells_at P b off ty u.cells.toList 0 vs w hb (by simp [hu]; exact hfit) h1
  simp only [Nat.add_zero, Array.length_toList, hu] at hst
  simp [Instr.storeAt, Instr.sureAddr, storeVar, hsz, hu, hst]
/-- The cells of a box after a store. -/
structure Stored (B : Nat) (w : World) (c : Cls) (w' : World) (c' : Cls) (d b off sz : Nat) (vs nc : Array Value) (us : List Value) (ty : TypeId) : Prop where
  ext : Ext B w c w' c'
  heap : w'.heap[b]? = some (.cells nc ty (0, 0))
  cls : c' b = .box d
  size : nc.size = vs.size
  new : ∀ j, off ≤ j → j < off + sz → nc[j]? = us[j - off]?
  old : ∀ j, ¬ (off ≤ j ∧ j < off + sz) → nc[j]? = vs[j]?
theorem store_core {e0 : Env} {H H' : Hold} {b off sz : Nat} {vs : Array Value} {ty : TypeId} {us : List Value} (h0 : SRel τ B w c (slots a) e0) (hn : ¬ Live e0 H) (hd : ∀ z cs m, e0 d ≠ .boxv z cs m) (hB : B ≤ b)
    (hb : w.heap[b]? = some (.cells vs ty (0, 0))) (hc : c b = .box d) (hus : us.length = sz) (hfit : off + sz ≤ vs.size) :
    ∃ w' nc, w' = w.setRow b (vs.toList.take off ++ us ++ vs.toList.drop (off + sz)).toArray ∧ SRel τ B w' (reh B c H H') (slots a) e0 ∧ Stored B w c w' (reh B c H H') d b off sz vs nc us ty := by
  have hc' : reh B c H H' b = .box d := by simp [reh, hc]
  have htl : (vs.toList.take off).length = off := by simp; omega
  have hx : Ext B w c (w.setRow b (vs.toList.take off ++ us ++ vs.toList.drop (off + sz)).toArray) (reh B c H H') := by
    refine ⟨rfl, rfl, rfl, by simp [World.setRow], fun q hq hq' => ⟨setRow_other w b q _ (by omega), ?_⟩, fun q j y hy hst => ?_⟩
    · exact ((ext_reh B w c H H').old q hq hq').2
    · have hqb : q ≠ b := fun hh => by subst hh; unfold stab at hst; rw [hc] at hst; exact hst
      exact ⟨by rw [cell_setRow_other w b _ _ hqb]; exact hy, (reh_stab q j).2 hst⟩
  refine ⟨_, (vs.toList.take off ++ us ++ vs.toList.drop (off + sz)).toArray, rfl, h0.change hx fun q hq hl => ?_, hx, setRow_heap w b vs _ ty (0, 0) hb, hc', ?_, fun j h1 h2 => ?_, fun j hj => ?_⟩
  · have hqb : q ≠ b := fun hh => by subst hh; rw [hc] at hl; obtain ⟨z, cs, m, hl⟩ := hl; exact hd z cs m hl
    exact ⟨setRow_other w b q _ hqb, (chg_reh (w := w) (B := B) (h' := H') hn q hq hl).2⟩
  · simp only [List.size_toArray, List.length_append, htl, List.length_drop, Array.length_toList, hus]; omega
  · simp only [List.getElem?_toArray]
    rw [List.append_assoc, List.getElem?_append_right (by rw [htl]; exact h1), htl, List.getElem?_append_left (by omega)]
  · simp only [List.getElem?_toArray]
    by_cases h1 : j < off
    · rw [List.append_assoc, List.getElem?_append_left (by rw [htl]; exact h1), List.getElem?_take, if_pos h1]; simp
    · rw [List.getElem?_append_right (by rw [List.length_append, htl, hus]; omega), List.length_append, htl, hus, List.getElem?_drop]
      rw [show off + sz + (j - (off + sz)) = j by omega]; simp
/-- The box after the store: what is said of its cells. -/
theorem box_stored {w' : World} {T : Nat → Value} {H H' : Hold} {b off sz z : Nat} {vs nc : Array Value} {ty : TypeId} {us : List Value} {cs cs' : List AV} {m m' : List (Nat × AV)} (hT : T d = .pointer (some ⟨b, 0, none⟩)) (hB : B ≤ b)
    (hz : vs.size = z) (hcs' : cs'.length = z) (h7 : ∀ (j : Nat) (x : AV) (u : Value), ovr m j = none → cs[j]? = some x → vs[j]? = some u → Rep w c u x) (h8 : ∀ (j : Nat) (x : AV) (u : Value), ovr m j = some x → vs[j]? = some u → CellR B w c d j u x)
    (h9 : ∀ (j : Nat) (x : AV), ovr m j = some x → j < z) (hst : Stored B w c w' (reh B c H H') d b off sz vs nc us ty) (hfit : off + sz ≤ z)
    (hother : ∀ q, q ≠ b → w'.heap[q]? = w.heap[q]?) (hcb : c b = .box d) (hH : ∀ j, H ≠ .cell d j)
    (hold : ∀ j, ¬ (off ≤ j ∧ j < off + sz) → ovr m' j = ovr m j ∧ cs'[j]? = cs[j]?)
    (hnew1 : ∀ (j : Nat) (x : AV) (u : Value), off ≤ j → j < off + sz → ovr m' j = some x → us[j - off]? = some u → CellR B w' (reh B c H H') d j u x)
    (hnew2 : ∀ (j : Nat) (x : AV) (u : Value), off ≤ j → j < off + sz → ovr m' j = none → cs'[j]? = some x → us[j - off]? = some u → Rep w' (reh B c H H') u x) :
    BoxR B w' (reh B c H H') d (T d) z cs' m' := by
  refine ⟨b, nc, ty, hT, hB, hst.heap, hst.cls, by rw [hst.size, hz], hcs', fun j x u p1 p2 p3 => ?_, fun j x u p1 p2 => ?_, fun j x p1 => ?_⟩
  · by_cases hj : off ≤ j ∧ j < off + sz
    · rw [hst.new j hj.1 hj.2] at p3
      exact hnew2 j x u hj.1 hj.2 p1 p2 p3
    · rw [hst.old j hj] at p3
      obtain ⟨q1, q2⟩ := hold j hj
      rw [q1] at p1; rw [q2] at p2
      exact (h7 j x u p1 p2 p3).ext hst.ext
  · by_cases hj : off ≤ j ∧ j < off + sz
    · rw [hst.new j hj.1 hj.2] at p2
      exact hnew1 j x u hj.1 hj.2 p1 p2
    · rw [hst.old j hj] at p2
      obtain ⟨q1, q2⟩ := hold j hj
      rw [q1] at p1
      have := h8 j x u p1 p2
      cases x <;> first
        | exact Rep.ext hst.ext this
        | skip
      refine OwnR.keep hst.ext (fun q st hq => ?_) this
      have hqb : q ≠ b := fun hh => by subst hh; rw [hcb] at hq; cases hq
      refine ⟨hother q hqb, ?_⟩
      simp only [reh, hq]
      rw [if_neg (fun hh => hH j hh.2.symm)]
  · by_cases hj : off ≤ j ∧ j < off + sz
    · omega
    · rw [(hold j hj).1] at p1; exact h9 j x p1
theorem ovr_ownZ : ∀ {mm : List (Nat × Nat)} {j : Nat} {y : AV}, ovr (ownZ mm) j = some y → ∃ q, y = .own q [] ∧ (j, q) ∈ mm
  | [], _, _, h => by cases h
  | (i, z) :: r, j, y, h => by
    have h : pick2 (Nat.beq i j) (some (.own z [])) (ovr (ownZ r) j) = some y := h
    cases hb : Nat.beq i j with
    | true =>
      rw [hb] at h
      obtain rfl := Nat.eq_of_beq_eq_true hb
      cases h
      exact ⟨z, rfl, List.mem_cons_self ..⟩
    | false =>
      rw [hb] at h
      obtain ⟨q, h1, h2⟩ := ovr_ownZ (mm := r) h
      exact ⟨q, h1, List.mem_cons_of_mem _ h2⟩
def AfterS (τ : Tab) (B : Nat) (a : Act) (w : World) (c : Cls) (e' : Env) : Act → World → Prop := fun a' w' => After τ B a w c e' a' w' ∧ a' = a
/-- A store. -/
theorem sim_storeBox1 (hT : TabOK P τ) {t s off z : Nat} {x : Operand} {cs : List AV} {m : List (Nat × AV)} {e' : Env} (ho : o.op = .store t (.tmp s) x) (hdst : o.dst = none) (hs : SRel τ B w c (slots a) e) (hd : e d = .boxv z cs m)
    (hp : ∀ b, slots a d = .pointer (some ⟨b, 0, none⟩) → slots a s = .pointer (some ⟨b, off, none⟩)) (h : storeBox τ e t d off z cs m x some = some e') : Steps P o a w (AfterS τ B a w c e') := by
  unfold storeBox at h
  obtain ⟨y, hy, g⟩ := opnd_inv h
  obtain ⟨q, hq⟩ := hy.slot hs
  obtain ⟨ti, hti, g⟩ := szOf_inv g
  obtain ⟨hle, g⟩ := guardK_inv g
  have hle : off + ti.sz ≤ z := by simpa using hle
  have hbox := hs.slot d
  rw [hd] at hbox
  obtain ⟨b, vs, ty, h1, h2, h3, h4, h5, h6, h7, h8, h9⟩ := hbox
  have hps : a.eval (.tmp s) = .pointer (some ⟨b, off, none⟩) := hp b h1
  -- what all ways share
  have fin : ∀ (e0 : Env) (H H' : Hold) (cs' : List AV) (m' : List (Nat × AV)), (∀ s, s ≠ d → Weak (e s) (e0 s)) → ¬ Live (Abs.set e0 d .undef) H → (∀ j, H ≠ .cell d j) → SRel τ B w c (slots a) e0 → e' = Abs.set (killc d e0) d (.boxv z cs' m') →
      (a.eval x).cells.size = ti.sz → (∀ y ∈ (a.eval x).cells.toList, y.oneCell' = true) → cs'.length = z →
      (∀ j, ¬ (off ≤ j ∧ j < off + ti.sz) → ovr m' j = ovr m j ∧ cs'[j]? = cs[j]?) →
      (∀ (w' : World) (j : Nat) (y : AV) (u : Value), Ext B w c w' (reh B c H H') → (∀ q, q ≠ b → w'.heap[q]? = w.heap[q]?) → off ≤ j → j < off + ti.sz → ovr m' j = some y → (a.eval x).cells.toList[j - off]? = some u → CellR B w' (reh B c H H') d j u y) →
      (∀ (j : Nat) (y : AV) (u : Value), off ≤ j → j < off + ti.sz → ovr m' j = none → cs'[j]? = some y → (a.eval x).cells.toList[j - off]? = some u → Rep w c u y) →
      Steps P o a w (AfterS τ B a w c e') := by
    intro e0 H H' cs' m' hw0 hn hH hs0 he' hsz hone hcs' hold hnew1 hnew2
    have hsU : SRel τ B w c (slots a) (Abs.set e0 d .undef) := hs0.weak fun s => by
      by_cases hsd : s = d
      · subst hsd; rw [set_same]; exact .undef _
      · rw [set_ne _ _ hsd]; exact .refl _
    obtain ⟨w', nc, hw', hs', hst⟩ := store_core (H := H) (H' := H') (us := (a.eval x).cells.toList) (sz := ti.sz) hsU hn (fun z cs m hh => by rw [set_same] at hh; cases hh) h2 h3 h4 (by simp [hsz]) (by rw [h5]; exact hle)
    have hrun : (execOp a.eval o).run P w = .ok .skip w' := by
      simp only [execOp, ho, Sem.run_bind, hps, run_store (size_of hT hti) h3 hsz (by rw [h5]; exact hle) hone, Result.andThen_ok, Sem.run_pure, hw']
    have hoth : ∀ q, q ≠ b → w'.heap[q]? = w.heap[q]? := fun q hq => by rw [hw']; exact setRow_other w b q _ hq
    have hb := box_stored (T := slots a) (m' := m') (cs' := cs') h1 h2 h5 hcs' h7 h8 h9 hst hle hoth h4 hH hold (fun j y u p1 p2 p3 p4 => hnew1 w' j y u hst.ext hoth p1 p2 p3 p4) (fun j y u p1 p2 p3 p4 p5 => (hnew2 j y u p1 p2 p3 p4 p5).ext hst.ext)
    refine (Does.skip (R := fun _ w2 => w2 = w') hrun rfl).steps fun u' w2 hu => ?_
    subst hu
    refine ⟨⟨_, hst.ext, ?_, put_size, put_defers⟩, by rw [hdst]; rfl⟩
    rw [hdst]
    refine hs'.reput hs hd (e' := e') (by rw [he', set_same]) hb (fun s hsd => by rw [set_ne _ _ hsd]; exact hw0 s hsd) (fun s hsd => ?_) (fun s hsd => ?_)
    · rw [he', set_ne _ _ hsd, set_ne _ _ hsd]; exact klc_weak ..
    · rw [he', set_ne _ _ hsd]; exact klc_no _ _
  have old : putK τ e t d off z ti.sz cs m x y some = some e' → Steps P o a w (AfterS τ B a w c e') := by
    clear g
    intro g
    unfold putK at g
    split at g
    · rename_i s' zz l _ _
      obtain ⟨el, s1, bb, z1, te, htt, hte, g⟩ := sliceSz_inv g
      obtain ⟨hzz, g⟩ := guardK_inv g
      cases g
      have h1sz : ti.sz = 1 := by rw [hti] at htt; cases htt; exact (hT t _ hti).kind.2
      have hes : e s' = .own zz l := by
        obtain ⟨_, ⟨t, k1, k2⟩ | ⟨k, k1, _⟩ | ⟨f, k1, _⟩⟩ := hy <;> cases k1
        exact unlit_own k2
      have hown := hs.slot s'
      rw [hes] at hown
      have hown : OwnR B w c (.slot s') (a.eval (.tmp s')) zz l := hown
      have hone := rep_one hown.1
      have hcl : (a.eval (.tmp s')).cells = #[a.eval (.tmp s')] := by generalize a.eval (.tmp s') = u at *; cases u <;> first | rfl | cases hone
      have hsd : s' ≠ d := fun hh => by rw [hh, hd] at hes; cases hes
      refine fin (Abs.set e s' (.sl zz l)) (.slot s') (.cell d off) cs ((off, .own zz l) :: delO m off) (fun t _ => ?_) ?_ (fun j hh => by cases hh) (hs.weak fun t => ?_) rfl (by rw [hcl, h1sz]; rfl) (fun y hy => ?_) h6 (fun j hj => ?_) (fun w' j y u hx hoth p1 p2 p3 p4 => ?_) (fun j y u p1 p2 p3 p4 p5 => ?_)
      · by_cases ht : t = s'
        · subst ht; rw [set_same, hes]; exact .own ..
        · rw [set_ne _ _ ht]; exact .refl _
      · rintro ⟨z', l', hx⟩
        rw [set_ne _ _ hsd, set_same] at hx; cases hx
      · by_cases ht : t = s'
        · subst ht; rw [set_same, hes]; exact .own ..
        · rw [set_ne _ _ ht]; exact .refl _
      · rw [hcl] at hy
        simp at hy; subst hy; exact hone
      · rw [ovr_put, if_neg (fun hh => hj ⟨by omega, by omega⟩)]; exact ⟨rfl, rfl⟩
      · obtain rfl : j = off := by omega
        rw [ovr_put, if_pos rfl] at p3
        cases p3
        rw [hcl] at p4
        simp at p4; subst p4
        have h2' := OwnR.reh (h' := .cell d j) hown
        refine ⟨hown.1.ext hx, h2'.2.imp id ?_⟩
        rintro ⟨b', cap, vs', ty', k1, k2, k3, k4, k5, k6, k7⟩
        have hbb : b' ≠ b := fun hh => by subst hh; rw [show reh B c (.slot s') (.cell d j) b' = .box d by simp [reh, h4]] at k7; cases k7
        exact ⟨b', cap, vs', ty', k1, k2, (hoth b' hbb).trans k3, k4, k5, k6, k7⟩
      · obtain rfl : j = off := by omega
        rw [ovr_put, if_pos rfl] at p3; cases p3
    · obtain ⟨el, s1, bb, z1, te, htt, hte, g⟩ := sliceSz_inv g
      cases g
      have h1sz : ti.sz = 1 := by rw [hti] at htt; cases htt; exact (hT t _ hti).kind.2
      have hq : Rep w c (a.eval x) .nil := hq
      generalize hu : a.eval x = u at *
      cases hq
      refine fin e (.ret 0) (.ret 0) cs ((off, .own te.sz []) :: delO m off) (fun t _ => .refl _) (fun hh => hh) (fun j hh => by cases hh) hs rfl (by rw [h1sz]; rfl) (fun y hy => ?_) h6 (fun j hj => ?_) (fun w' j y u hx hoth p1 p2 p3 p4 => ?_) (fun j y u p1 p2 p3 p4 p5 => ?_)
      · simp [Value.cells] at hy; subst hy; rfl
      · rw [ovr_put, if_neg (fun hh => hj ⟨by omega, by omega⟩)]; exact ⟨rfl, rfl⟩
      · obtain rfl : j = off := by omega
        rw [ovr_put, if_pos rfl] at p3
        cases p3
        simp [Value.cells] at p4; subst p4
        exact ⟨.nil _, .inl ⟨rfl, rfl⟩⟩
      · obtain rfl : j = off := by omega
        rw [ovr_put, if_pos rfl] at p3; cases p3
    · obtain ⟨v', hc, g⟩ := cast_inv g
      obtain ⟨cl, hcl, g⟩ := cellsOf_inv g
      have hr := plain_cells hT hti hc (hq.cst hc) hcl
      have hone : ∀ y ∈ (a.eval x).cells.toList, y.oneCell' = true := fun y hy => by
        obtain ⟨k, hk, rfl⟩ := List.getElem_of_mem hy
        have hk' : k < (a.eval x).cells.size := by simpa using hk
        have hk2 : k < cl.length := by rw [hr.len, ← hr.size]; exact hk'
        exact rep_one (hr.rep k _ _ (List.getElem?_eq_getElem hk2) (by simp [hk']))
      by_cases hw : (Nat.beq off 0 && Nat.beq ti.sz z) = true
      · rw [hw] at g
        cases g
        simp only [Bool.and_eq_true] at hw
        obtain rfl := Nat.eq_of_beq_eq_true hw.1
        have hz := Nat.eq_of_beq_eq_true hw.2
        refine fin e (.ret 0) (.ret 0) cl [] (fun t _ => .refl _) (fun hh => hh) (fun j hh => by cases hh) hs rfl hr.size hone (by rw [hr.len, hz]) (fun j hj => ?_) (fun w' j y u hx hoth p1 p2 p3 p4 => by simp [ovr] at p3) (fun j y u p1 p2 p3 p4 p5 => ?_)
        · have hj' : z ≤ j := by omega
          refine ⟨?_, ?_⟩
          · cases ho2 : ovr m j with
            | none => rfl
            | some y => exact absurd (h9 j y ho2) (by omega)
          · rw [List.getElem?_eq_none (by rw [hr.len]; omega), List.getElem?_eq_none (by rw [h6]; omega)]
        · exact hr.rep _ y u p4 (by simpa using p5)
      · rw [Bool.eq_false_iff.2 hw] at g
        obtain ⟨l, hl, hlj, g⟩ := getCs_inv g
        cases g
        refine fin e (.ret 0) (.ret 0) cs (putM off l m) (fun t _ => .refl _) (fun hh => hh) (fun j hh => by cases hh) hs rfl hr.size hone h6 (fun j hj => ?_) (fun w' j y u hx hoth p1 p2 p3 p4 => ?_) (fun j y u p1 p2 p3 p4 p5 => ?_)
        · rw [ovr_putM, hl, if_neg hj]; exact ⟨rfl, rfl⟩
        · rw [ovr_putM, hl, if_pos ⟨p1, p2⟩, hlj _ (by omega), Nat.zero_add] at p3
          have := (hr.rep _ y u p3 (by simpa using p4)).ext hx
          cases y <;> first | exact this | cases this
        · rw [ovr_putM, hl, if_pos ⟨p1, p2⟩, List.getElem?_eq_none_iff] at p3
          omega
  unfold storeK at g
  split at g
  · rename_i mm hlit
    cases hb : (Nat.beq off 0 && Nat.beq ti.sz z) with
    | false => rw [hb] at g; exact old g
    | true =>
      rw [hb] at g
      have g : (cast τ t y fun a => cellsOf ti.sz a fun c' => some (Abs.set (killc d e) d (AV.boxv z c' (ownZ mm)))) = some e' := g
      obtain ⟨v', hc, g⟩ := cast_inv g
      obtain ⟨cl, hcl, g⟩ := cellsOf_inv g
      cases g
      have hr := plain_cells hT hti hc (hq.cst hc) hcl
      have hone : ∀ y ∈ (a.eval x).cells.toList, y.oneCell' = true := fun y hy => by
        obtain ⟨k, hk, rfl⟩ := List.getElem_of_mem hy
        have hk' : k < (a.eval x).cells.size := by simpa using hk
        have hk2 : k < cl.length := by rw [hr.len, ← hr.size]; exact hk'
        exact rep_one (hr.rep k _ _ (List.getElem?_eq_getElem hk2) (by simp [hk']))
      simp only [Bool.and_eq_true] at hb
      obtain rfl := Nat.eq_of_beq_eq_true hb.1
      have hz := Nat.eq_of_beq_eq_true hb.2
      obtain ⟨s', rfl, hN⟩ : ∃ s', x = .tmp s' ∧ ∀ j z, (j, z) ∈ mm → ∃ vs : Array Value, slots a s' = .agg vs ∧ vs[j]? = some (.slice none 0 0) := by
        cases x with
        | tmp s' =>
          refine ⟨s', rfl, ?_⟩
          have hs' := hs.slot s'
          have hl : (match e s' with | .lit _ _ m => some m | _ => none) = some mm := hlit
          split at hl
          · rename_i h1
            cases hl
            rw [h1] at hs'
            exact hs'.2
          · cases hl
        | const v => cases hlit
        | global g => cases hlit
        | func f => cases hlit
      have hev : a.eval (.tmp s') = slots a s' := rfl
      refine fin e (.ret 0) (.ret 0) cl (ownZ mm) (fun t _ => .refl _) (fun hh => hh) (fun j hh => by cases hh) hs rfl hr.size hone (by rw [hr.len, hz]) (fun j hj => ?_) (fun w' j y u hx hoth p1 p2 p3 p4 => ?_) (fun j y u p1 p2 p3 p4 p5 => ?_)
      · have hj' : z ≤ j := by omega
        refine ⟨?_, ?_⟩
        · have e1 : ovr m j = none := by
            cases ho2 : ovr m j with
            | none => rfl
            | some y => exact absurd (h9 j y ho2) (by omega)
          rw [e1]
          cases ho2 : ovr (ownZ mm) j with
          | none => rfl
          | some y =>
            obtain ⟨q, _, hq⟩ := ovr_ownZ ho2
            obtain ⟨vs, k1, k2⟩ := hN j q hq
            have hj2 := (Array.getElem?_eq_some_iff.1 k2).1
            have hsz2 := hr.size
            rw [hev, k1] at hsz2
            have hsz2 : vs.size = ti.sz := hsz2
            omega
        · rw [List.getElem?_eq_none (by rw [hr.len]; omega), List.getElem?_eq_none (by rw [h6]; omega)]
      · obtain ⟨q, rfl, hq⟩ := ovr_ownZ p3
        obtain ⟨vs, k1, k2⟩ := hN j q hq
        rw [hev, k1] at p4
        have p4 : vs.toList[j - 0]? = some u := p4
        rw [Nat.sub_zero, Array.getElem?_toList, k2] at p4
        cases p4
        exact ⟨.nil _, .inl ⟨rfl, rfl⟩⟩
      · exact hr.rep _ y u p4 (by simpa using p5)
  · exact old g
theorem sim_storeBox (hT : TabOK P τ) {t s off z : Nat} {x : Operand} {cs : List AV} {m : List (Nat × AV)} {e' : Env} (ho : o.op = .store t (.tmp s) x) (hdst : o.dst = none) (hs : SRel τ B w c (slots a) e) (hd : e d = .boxv z cs m)
    (hp : ∀ b, slots a d = .pointer (some ⟨b, 0, none⟩) → slots a s = .pointer (some ⟨b, off, none⟩)) (h : storeBox τ e t d off z cs m x some = some e') : Steps P o a w (After τ B a w c e') := fun K Q hK => sim_storeBox1 hT ho hdst hs hd hp h K Q fun a' w' h => hK a' w' h.1
end
section
variable {P : Program} {τ : Tab} {B : Nat} {w : World} {c : Cls} {a : Act} {e : Env} {o : Oper} {d : Nat} {v : AV} {call : Nat → List AV → Option AV}
theorem sim_storeT (hT : TabOK P τ) {t s : Nat} {x : Operand} {e' : Env} (ho : o.op = .store t (.tmp s) x) (hdst : o.dst = none) (hs : SRel τ B w c (slots a) e) (h : storeT τ e t s x some (e s) = some e') : Steps P o a w (After τ B a w c e') := by
  have hso := hs.slot s
  cases hes : e s <;> rw [hes] at h hso <;> first
    | cases h
    | skip
  · exact sim_storeBox hT ho hdst hs hes (fun b hb => hb) h
  · rename_i d off
    have h : (match e d with | .boxv z c m => storeBox τ e t d off z c m x some | _ => none) = some e' := h
    split at h
    · rename_i z cs m hed
      refine sim_storeBox hT ho hdst hs hed (fun b hb => ?_) h
      obtain ⟨b', h1, h2⟩ := hso z cs m hed
      rw [hb] at h1; cases h1
      exact h2
    · cases h
/-- New holders for the parts of a result. -/
def rehC (B : Nat) (c : Cls) (s d : Nat) : Cls := fun b => match c b with
  | .own st (.comp s' i) => if B ≤ b ∧ s' = s then .own st (.comp d i) else .own st (.comp s' i)
  | k => k
theorem rehC_stab {s d : Nat} (b i : Nat) : stab (rehC B c s d) b i ↔ stab c b i := by
  unfold stab rehC
  cases hk : c b with
  | frz => simp
  | box => simp
  | own st g =>
    cases g with
    | comp s' j => by_cases hg : B ≤ b ∧ s' = s <;> simp [hg]
    | slot | cell | ret => exact Iff.rfl
theorem ext_rehC (B : Nat) (w : World) (c : Cls) (s d : Nat) : Ext B w c w (rehC B c s d) := by
  refine ⟨rfl, rfl, rfl, Nat.le_refl _, fun b hb _ => ⟨rfl, ?_⟩, fun b i v hv hs => ⟨hv, (rehC_stab b i).2 hs⟩⟩
  unfold rehC
  cases hk : c b with
  | frz => rfl
  | box => rfl
  | own st g =>
    cases g with
    | comp s' j => simp; omega
    | slot | cell | ret => rfl
theorem chg_rehC {s d : Nat} (hn : ∀ i, ¬ Live e (.comp s i)) : Chg e w c w (rehC B c s d) := fun b _ hl => by
  refine ⟨rfl, ?_⟩
  unfold rehC
  cases hk : c b with
  | frz => rfl
  | box => rfl
  | own st g =>
    cases g with
    | comp s' j =>
      rw [hk] at hl
      have hg : s' ≠ s := fun hg => hn j (hg ▸ hl)
      simp [hg]
    | slot | cell | ret => rfl
theorem OwnR.rehC {s i : Nat} {u : Value} {sz : Nat} {l : List (List AV)} (ho : OwnR B w c (.comp s i) u sz l) : OwnR B w (Abs.rehC B c s d) (.comp d i) u sz l := by
  refine ⟨ho.1.ext (ext_rehC B w c s d), ho.2.imp id ?_⟩
  rintro ⟨b, cap, vs, ty, h1, h2, h3, h4, h5, h6, h7⟩
  exact ⟨b, cap, vs, ty, h1, h2, h3, h4, h5, h6, by simp [Abs.rehC, h7, h2]⟩
theorem PartR.frz {h : Hold} {u : Value} {x : AV} (hp : PartR B w c h u x) : PartR B w c h u (Abs.frz x) := by
  cases x <;> first
    | exact hp
    | exact hp.1
    | exact (hp : False).elim
theorem sim_moveS {s d : Nat} {e' : Env} (ho : o.op = .move (.tmp s)) (hdst : o.dst = some d) (hd : d < a.tmps.size) (hs : SRel τ B w c (slots a) e) (h : moveS τ e o.type s d some (e s) = some e') (hval : ∀ v, Abs.unlit (e s) ≠ .undef → moveK τ o.type (.tmp s) (Abs.unlit (e s)) some = some v → Steps P o a w (After τ B a w c (setH e (some d) v))) :
    Steps P o a w (After τ B a w c e') := by
  by_cases ht : ∃ l, e s = .tup l
  · obtain ⟨l, hes⟩ := ht
    rw [hes] at h
    cases h
    have hso := hs.slot s
    rw [hes] at hso
    obtain ⟨vs, h1, h2, h3⟩ := hso
    have hs1 : SRel τ B w c (slots a) (Abs.set e s (.tup (l.map frz))) := hs.again (d := s) (v := .tup (l.map frz)) ⟨vs, h1, by simp [h2], fun i x u hx hu => by
      rw [List.getElem?_map] at hx
      cases hy : l[i]? with
      | none => rw [hy] at hx; cases hx
      | some y => rw [hy] at hx; cases hx; exact (h3 i y u hy hu).frz⟩ rfl rfl
    have hn : ∀ i, ¬ Live (Abs.set e s (.tup (l.map frz))) (.comp s i) := by
      rintro i ⟨l', z, r, hx, hx'⟩
      rw [set_same] at hx; cases hx
      rw [List.getElem?_map] at hx'
      cases hy : l[i]? with
      | none => rw [hy] at hx'; cases hx'
      | some y => rw [hy] at hx'; cases y <;> cases hx'
    refine (Does.value (R := fun u' w' => u' = slots a s ∧ w' = w) (u := slots a s) (w' := w) (by simp [execOp, ho, eval_tmp]) ⟨rfl, rfl⟩).steps fun u' w' hu => ?_
    obtain ⟨rfl, rfl⟩ := hu
    refine ⟨rehC B c s d, ext_rehC .., ?_, put_size, put_defers⟩
    rw [hdst, slots_put hd]
    have := (hs1.change (ext_rehC B w' c s d) (chg_rehC hn)).setH (d := d) (u := slots a s) (v := .tup l) ⟨vs, h1, h2, fun i x u hx hu => by
      rcases (h3 i x u hx hu).either with ⟨z, l', rfl, hown⟩ | hp
      · exact hown.rehC
      · have hp := hp.ext (ext_rehC B w' c s d)
        cases x <;> first | exact hp.elim | exact hp⟩
    rw [setH_false rfl] at this
    exact this
  · have hm : ∃ v, Abs.unlit (e s) ≠ .undef ∧ moveK τ o.type (.tmp s) (Abs.unlit (e s)) some = some v ∧ setH e (some d) v = e' := by
      have h : nz (Abs.unlit (e s)) (fun a => moveK τ o.type (.tmp s) a fun v => some (setH e (some d) v)) = some e' := by
        cases hes : e s <;> rw [hes] at h ht <;> first
          | (exfalso; exact ht ⟨_, rfl⟩)
          | exact h
      obtain ⟨hne, h⟩ := nz_inv h
      have h : (moveK τ o.type (.tmp s) (Abs.unlit (e s)) some).bind (fun v => some (setH e (some d) v)) = some e' := by rw [moveK_b]; exact h
      obtain ⟨v, h1, h2⟩ := Option.bind_eq_some_iff.1 h
      cases h2
      exact ⟨v, hne, h1, rfl⟩
    obtain ⟨v, h1, h2, rfl⟩ := hm
    exact hval v h1 h2
theorem val_some {α : Type} {k : AV → Option α} {r : α} (h : val τ call e o k = some r) : ∃ v, val τ call e o some = some v ∧ k v = some r := by
  rw [val_nat] at h
  exact Option.bind_eq_some_iff.1 h
theorem step_some {res : List Nat} {α : Type} {k : Env → Option α} {r : α} (h : step τ call res e o k = some r) : ∃ e', step τ call res e o some = some e' ∧ k e' = some r := by
  rw [step_nat] at h
  exact Option.bind_eq_some_iff.1 h
theorem step_sim (hT : TabOK P τ) (hcall : ∀ f l r, call f l = some r → PC P τ f l r) {res : List Nat} {e' : Env} (hs : SRel τ B w c (slots a) e) (hd : ∀ d, o.dst = some d → d < a.tmps.size) (h : step τ call res e o some = some e') :
    Steps P o a w (After τ B a w c e') := by
  unfold step at h
  split at h
  · rename_i x d h1 h2
    obtain ⟨b, hb, g⟩ := opnd_inv h
    exact sim_give h1 hs hb (hd d h2) h2 g
  · rename_i s d h1 h2
    refine sim_moveS h1 h2 (hd d h2) hs h fun v hne hv => ?_
    have hval : val τ call e o some = some v := by
      unfold val; simp only [h1, opnd]
      cases hes : Abs.unlit (e s) <;> rw [hes] at hv hne <;> first | exact absurd rfl hne | exact hv
    have := step_val (val_sim (d := o.dst.getD 0) hT hcall hs hval) hs hd
    rw [h2] at this
    exact this
  · rename_i s i h1
    exact sim_partT (x := .tmp s) h1 hs hd h
  · rename_i t s x h1 h2
    exact sim_storeT hT h1 h2 hs h
  · rename_i x y t0 t1 h1
    exact sim_append hT h1 hs hd h
  · cases h
  · obtain ⟨v, h1, h2⟩ := val_some h
    cases h2
    exact step_val (val_sim hT hcall hs h1) hs hd
end
theorem bitAt_test (m x : Nat) : bitAt m x = Nat.testBit m x := by
  unfold bitAt Nat.testBit
  show Nat.beq ((m >>> x) &&& 1) 1 = (1 &&& (m >>> x) != 0)
  rw [Nat.and_comm, Nat.one_and_eq_mod_two]
  rcases Nat.mod_two_eq_zero_or_one (m >>> x) with h | h <;> rw [h] <;> rfl
theorem bitAt_or (a b x : Nat) : bitAt (a ||| b) x = (bitAt a x || bitAt b x) := by simp only [bitAt_test, Nat.testBit_or]
theorem bitAt_slot (d : Option Nat) (x : Nat) : bitAt (slotBit d) x = true ↔ d = some x := by
  rw [bitAt_test]
  cases d with
  | none => simp [slotBit]
  | some d => simp [slotBit, bit, Nat.testBit_two_pow]
theorem bitAt_zero (x : Nat) : bitAt 0 x = false := by rw [bitAt_test]; simp
theorem sameGuard_eq {g h : Option (Nat × Bool)} (hg : sameGuard g h = true) : g = h := by
  cases g with
  | none => cases h with
    | none => rfl
    | some y => cases hg
  | some x =>
    obtain ⟨i, b⟩ := x
    cases h with
    | none => cases hg
    | some y =>
      obtain ⟨j, b'⟩ := y
      simp only [sameGuard, Bool.and_eq_true] at hg
      obtain ⟨h1, h2⟩ := hg
      obtain rfl := Nat.eq_of_beq_eq_true h1
      cases b <;> cases b' <;> first | rfl | cases h2
def refOK (e : Env) (v : AV) : Prop := match v with
  | .fptr q _ => ∃ z c m, e q = .boxv z c m
  | .vw q _ _ => ∃ z l, e q = .own z l
  | .vwc q _ _ _ => ∃ z c m, e q = .boxv z c m
  | _ => True
theorem isOwn_inv {α : Type} {a : AV} {k : Option α} {r : α} (h : isOwn a k = some r) : (∃ z l, a = .own z l) ∧ k = some r := by cases a <;> first | (cases h; done) | exact ⟨⟨_, _, rfl⟩, h⟩
theorem refK_inv {α : Type} {e : Env} {v : AV} {k : Option α} {r : α} (h : refK e v k = some r) : refOK e v ∧ k = some r := by
  cases v <;> first
    | exact ⟨trivial, h⟩
    | exact isBox_inv h
    | exact isOwn_inv h
theorem gate_inv {α : Type} {b c : Bool} {x y : Option α} {r : α} (h : gate b c x y = some r) : (c = b ∧ x = some r) ∨ (c = (!b) ∧ y = some r) := by
  cases b <;> cases c <;> first | exact .inl ⟨rfl, h⟩ | exact .inr ⟨rfl, h⟩
def dstL (l : List (Oper × Nat)) : List Nat := l.filterMap (fun x => dq x.1)
theorem upto_spec {d : Nat} : ∀ {l acc g : List (Oper × Nat)} {p : Oper × Nat} {rest : List (Oper × Nat)}, upto d acc l = some (g, p, rest) → acc.reverse ++ l = g ++ p :: rest ∧ isPick d p.1 = true
  | [], _, _, _, _, h => by cases h
  | o :: l, acc, g, p, rest, h => by
    unfold upto at h
    split at h
    · rename_i hp
      cases h
      exact ⟨rfl, hp⟩
    · obtain ⟨h1, h2⟩ := upto_spec h
      refine ⟨?_, h2⟩
      rw [← h1]; simp
theorem isPick_op {d : Nat} {o : Oper} (h : isPick d o = true) : ∃ x y, o.op = .pick (.tmp d) x y := by
  unfold isPick at h
  split at h
  · rename_i s x y ho
    obtain rfl := Nat.eq_of_beq_eq_true h
    exact ⟨x, y, ho⟩
  · cases h
theorem setO_ne {e : Env} {d : Option Nat} {v : AV} {x : Nat} (h : d ≠ some x) : Abs.setO e d v x = e x := by
  cases d with
  | none => rfl
  | some d => exact set_ne _ _ fun hh => h (by rw [hh])
theorem setO_at {e : Env} {d : Option Nat} {v : AV} {x : Nat} (h : d = some x) : Abs.setO e d v x = v := by subst h; exact set_same ..
theorem mem_dstL {l : List (Oper × Nat)} {x : Nat} : x ∈ dstL l ↔ ∃ y ∈ l, dq y.1 = some x := by simp [dstL, List.mem_filterMap]
theorem clears_at : ∀ {l : List (Oper × Nat)} {e : Env} {x : Nat}, (x ∈ dstL l → clears e l x = .undef) ∧ (x ∉ dstL l → clears e l x = e x)
  | [], e, x => ⟨fun h => by simp [dstL] at h, fun _ => rfl⟩
  | o :: l, e, x => by
    have ih := clears_at (l := l) (e := Abs.setO e (dq o.1) .undef) (x := x)
    by_cases hl : x ∈ dstL l
    · exact ⟨fun _ => ih.1 hl, fun h => absurd (mem_dstL.2 (let ⟨y, hy, hh⟩ := mem_dstL.1 hl; ⟨y, by simp [hy], hh⟩)) h⟩
    · by_cases ho : dq o.1 = some x
      · exact ⟨fun _ => (ih.2 hl).trans (setO_at ho), fun h => absurd (mem_dstL.2 ⟨o, by simp, ho⟩) h⟩
      · refine ⟨fun h => ?_, fun _ => (ih.2 hl).trans (setO_ne ho)⟩
        obtain ⟨y, hy, hh⟩ := mem_dstL.1 h
        rcases List.mem_cons.1 hy with rfl | hy
        · exact absurd hh ho
        · exact absurd (mem_dstL.2 ⟨y, hy, hh⟩) hl
/-- What is to come of a slot; none: it is passed over. -/
abbrev Vals := Nat → Option AV
theorem dq_none {o : Oper} (h : stT o = none) : dq o = o.dst := by unfold dq; rw [h]
theorem dq_some {o : Oper} {t s : Nat} {x : Operand} (h : stT o = some (t, s, x)) : dq o = some s := by unfold dq; rw [h]
theorem stT_pick {o : Oper} {c x y : Operand} (h : o.op = .pick c x y) : stT o = none := by unfold stT; rw [h]
theorem stT_inv {o : Oper} {t s : Nat} {x : Operand} (h : stT o = some (t, s, x)) : o.op = .store t (.tmp s) x ∧ o.dst = none := by
  unfold stT at h
  split at h
  · rename_i h1 h2; cases h; exact ⟨h1, h2⟩
  · cases h
section
variable (τ : Tab) (call : Nat → List AV → Option AV) (all : List Oper) (W : Nat) (e0 : Env)
def Fits (V : Vals) (bad : Nat) (m : Env) : Prop := ∀ x, bitAt bad x = false → (bitAt W x = true → m x = .undef ∨ V x = some (m x)) ∧ (bitAt W x = false → m x = e0 x)
def gHolds (m : Env) (o : Oper) (bad : Nat) : Prop := ∀ j b, o.guard = some (j, b) → ∃ d, dstAt all j = some d ∧ bitAt bad d = false ∧ m d = .bool b
inductive Loc (V : Vals) (o : Oper) (bad : Nat) : Prop
  | store (m : Env) (t s : Nat) (x : Operand) (v : AV) (hf : Fits W e0 V bad m) (ho : stT o = some (t, s, x)) (hg : o.guard = none) (hv : stBox τ t (maskE bad m) x (e0 s) some = some v) (hd : V s = some v)
  | exec (m : Env) (v : AV) (hst : stT o = none) (hf : Fits W e0 V bad m) (hg : gHolds all m o bad) (hv : val τ call (maskE bad m) o some = some v) (href : refOK (maskE bad m) v) (hd : ∀ d, dq o = some d → V d = some v)
  | pick (m : Env) (d : Nat) (c : Bool) (x y : Operand) (v : Bool) (hst : stT o = none) (hf : Fits W e0 V bad m) (hg : gHolds all m o bad) (ho : o.op = .pick (.tmp d) x y) (hb : bitAt bad d = false) (hm : m d = .bool c)
      (hx : opnd (maskE bad m) (pick2 c x y) asBv = some v) (hd : ∀ d', dq o = some d' → V d' = some (.bool v))
  | skip (m : Env) (j : Nat) (b : Bool) (d : Nat) (hst : stT o = none) (hf : Fits W e0 V bad m) (hg : o.guard = some (j, b)) (hj : dstAt all j = some d) (hb : bitAt bad d = false) (hm : (∃ c, m d = .bool c ∧ c ≠ b) ∨ (bitAt W d = true ∧ V d = none))
      (hd : ∀ d', dq o = some d' → V d' = none)
theorem grpOk_spec {g : Nat × Bool} : ∀ {l : List (Oper × Nat)} {S : Nat}, grpOk all g S l = true → ∀ y ∈ l, seesG all y.1 y.2 = true ∧ stT y.1 = none ∧ (y.1.guard = some g ∨ ∃ j b d, y.1.guard = some (j, b) ∧ dstAt all j = some d ∧ (bitAt S d = true ∨ d ∈ dstL l))
  | [], _, _, y, hy => by cases hy
  | (o, bad) :: l, S, h, y, hy => by
    simp only [grpOk, Bool.and_eq_true, Bool.or_eq_true] at h
    obtain ⟨⟨⟨h1, h2⟩, h0⟩, h3⟩ := h
    rcases List.mem_cons.1 hy with rfl | hy
    · refine ⟨h1, by simpa using h0, ?_⟩
      rcases h2 with h2 | h2
      · exact .inl (sameGuard_eq h2)
      · split at h2
        · rename_i j b hg
          split at h2
          · rename_i d hd
            exact .inr ⟨j, b, d, hg, hd, .inl h2⟩
          · cases h2
        · cases h2
    · obtain ⟨k1, k0, k2⟩ := grpOk_spec h3 y hy
      refine ⟨k1, k0, k2.imp id ?_⟩
      rintro ⟨j, b, d, q1, q2, q3⟩
      refine ⟨j, b, d, q1, q2, ?_⟩
      rcases q3 with q3 | q3
      · rw [bitAt_or, Bool.or_eq_true] at q3
        rcases q3 with q3 | q3
        · exact .inl q3
        · exact .inr (mem_dstL.2 ⟨(o, bad), by simp, (bitAt_slot _ _).1 q3⟩)
      · obtain ⟨y', hy', hh⟩ := mem_dstL.1 q3
        exact .inr (mem_dstL.2 ⟨y', by simp [hy'], hh⟩)
theorem runHead_loc : ∀ (n : Nat) (cur : Option (Nat × Bool)) (l : List (Oper × Nat)) (e : Env) {α : Type} (k : Env → Option α) (r : α) (V0 : Vals) (F : Nat → Prop), runHead τ call all e0 n cur l e k = some r →
    (∀ j b, cur = some (j, b) → ∃ d, dstAt all j = some d ∧ e d = .bool b) → (dstL l).Nodup → (∀ x ∈ dstL l, bitAt W x = true) → (∀ x, F x → e x = .undef) → (∀ x, F x → x ∉ dstL l) → (∀ x ∈ dstL l, e x = .undef) →
    (∀ x, (bitAt W x = true → e x = .undef ∨ V0 x = some (e x)) ∧ (bitAt W x = false → e x = e0 x)) →
    ∃ (V : Vals) (e' : Env), k e' = some r ∧ (∀ x, x ∉ dstL l → V x = V0 x) ∧ (∀ x, x ∉ dstL l → e' x = e x) ∧ (∀ x ∈ dstL l, e' x = .undef ∨ V x = some (e' x)) ∧ ∀ V', (∀ x, ¬ F x → V' x = V x) → ∀ y ∈ l, Loc τ call all W e0 V' y.1 y.2
  | 0, _, _, _, _, _, _, _, _, h, _, _, _, _, _, _, _ => by cases h
  | n + 1, cur, [], e, _, k, r, V0, F, h, _, _, _, _, _, _, _ => ⟨V0, e, h, fun _ _ => rfl, fun _ _ => rfl, fun x hx => by simp [dstL] at hx, fun _ _ y hy => by cases hy⟩
  | n + 1, cur, (o, bad) :: l, e, _, k, r, V0, F, h, hcur, hnd, hW, hF, hFl, hl, he => by
    unfold runHead at h
    split at h
    · rename_i hsame
      have hgc := sameGuard_eq hsame
      obtain ⟨v, h, hex⟩ : ∃ v, runHead τ call all e0 n cur l (Abs.setO e (dq o) v) k = some r ∧ ∀ V', Fits W e0 V' bad e → (∀ d, dq o = some d → V' d = some v) → Loc τ call all W e0 V' o bad := by
        split at h
        · rename_i t s x hst
          obtain ⟨hgn, h⟩ := guardK_inv h
          rw [stBox_nat] at h
          obtain ⟨v, hv, h⟩ := Option.bind_eq_some_iff.1 h
          refine ⟨v, by rw [dq_some hst]; exact h, fun V' hf hd => .store e t s x v hf hst (by simpa using hgn) hv (hd s (dq_some hst))⟩
        · rename_i hst
          obtain ⟨hsee, h⟩ := guardK_inv h
          obtain ⟨v, hv, h⟩ := val_some h
          obtain ⟨href, h⟩ := refK_inv h
          refine ⟨v, by rw [dq_none hst]; exact h, fun V' hf hd => .exec e v hst hf (fun j b hg => ?_) hv href hd⟩
          obtain ⟨d, q1, q2⟩ := hcur j b (by rw [← hgc]; exact hg)
          refine ⟨d, q1, ?_, q2⟩
          simp only [seesG, hg, q1] at hsee
          simpa using hsee
      have hmem : ∀ {x}, x ∈ dstL ((o, bad) :: l) ↔ dq o = some x ∨ x ∈ dstL l := by
        intro x; simp only [mem_dstL, List.mem_cons, exists_eq_or_imp]
      have hnd' : (dstL l).Nodup ∧ ∀ x, dq o = some x → x ∉ dstL l := by
        cases hd : dq o with
        | none =>
          have : dstL ((o, bad) :: l) = dstL l := by simp [dstL, hd]
          rw [this] at hnd; exact ⟨hnd, fun x hx => by cases hx⟩
        | some d =>
          have : dstL ((o, bad) :: l) = d :: dstL l := by simp [dstL, hd]
          rw [this, List.nodup_cons] at hnd; exact ⟨hnd.2, fun x hx => by cases hx; exact hnd.1⟩
      have hbool : ∀ {d b}, e d = .bool b → dq o ≠ some d := fun hb hd => by
        have := hl _ (hmem.2 (.inl hd)); rw [hb] at this; cases this
      obtain ⟨V, e', h1, h2, h3, h4, h5⟩ := runHead_loc n cur l (Abs.setO e (dq o) v) k r (fun x => if dq o = some x then some v else V0 x) F h
        (fun j b hc => let ⟨d, q1, q2⟩ := hcur j b hc; ⟨d, q1, (setO_ne (hbool q2)).trans q2⟩) hnd'.1 (fun x hx => hW x (hmem.2 (.inr hx)))
        (fun x hx => (setO_ne fun hd => hFl x hx (hmem.2 (.inl hd))).trans (hF x hx)) (fun x hx hm => hFl x hx (hmem.2 (.inr hm)))
        (fun x hx => (setO_ne fun hd => hnd'.2 x hd hx).trans (hl x (hmem.2 (.inr hx)))) (fun x => by
          by_cases hd : dq o = some x
          · refine ⟨fun _ => .inr (by simp [hd, setO_at]), fun hw => by rw [hW x (hmem.2 (.inl hd))] at hw; cases hw⟩
          · rw [setO_ne hd]; simp only [hd, if_false]; exact he x)
      refine ⟨V, e', h1, fun x hx => ?_, fun x hx => ?_, fun x hx => ?_, fun V' hV' y hy => ?_⟩
      · rw [h2 x fun hm => hx (hmem.2 (.inr hm))]
        simp only [show ¬ dq o = some x from fun hd => hx (hmem.2 (.inl hd)), if_false]
      · rw [h3 x fun hm => hx (hmem.2 (.inr hm)), setO_ne fun hd => hx (hmem.2 (.inl hd))]
      · rcases hmem.1 hx with hd | hm
        · have hn := hnd'.2 x hd
          rw [h3 x hn, h2 x hn, setO_at hd]; simp [hd]
        · exact h4 x hm
      · rcases List.mem_cons.1 hy with rfl | hy
        · refine hex V' (fun x hb => ⟨fun hw => ?_, (he x).2⟩) fun d hd => ?_
          · rcases (he x).1 hw with hu | hu
            · exact .inl hu
            · by_cases hz : e x = .undef
              · exact .inl hz
              · have hxl : x ∉ dstL ((o, bad) :: l) := fun hm => hz (hl x hm)
                refine .inr ?_
                rw [hV' x fun hf => hz (hF x hf), h2 x fun hm => hxl (hmem.2 (.inr hm))]
                simp only [show ¬ dq o = some x from fun hd => hxl (hmem.2 (.inl hd)), if_false]
                exact hu
          · have hd : dq o = some d := hd
            rw [hV' d fun hf => hFl d hf (hmem.2 (.inl hd)), h2 d (hnd'.2 d hd)]
            simp [hd]
        · exact h5 V' hV' y hy
    · split at h
      · cases h
      · rename_i j b hog
        split at h
        · cases h
        · rename_i d hj
          split at h
          · cases h
          · rename_i grp p pb rest hup
            split at h
            · rename_i pd hpg hpd
              obtain ⟨hl0, hpk⟩ := upto_spec hup
              have hl0 : (o, bad) :: l = grp ++ (p, pb) :: rest := hl0
              obtain ⟨px, py, hpo⟩ := isPick_op hpk
              obtain ⟨hst, h⟩ := guardK_inv h
              simp only [Bool.and_eq_true] at hst
              obtain ⟨⟨hgrp, hsee⟩, hpb⟩ := hst
              have hpb : bitAt pb d = false := by simpa using hpb
              obtain ⟨cc, hed, h⟩ := asB_inv h
              obtain ⟨v, hv, h⟩ := Option.bind_eq_some_iff.1 h
              rw [hl0] at hnd hW hFl hl ⊢
              clear hup hl0
              have hdl : dstL (grp ++ (p, pb) :: rest) = dstL grp ++ pd :: dstL rest := by
                have : dstL ((p, pb) :: rest) = pd :: dstL rest := by
                  have hpd' : dq p = some pd := hpd
                  simp [dstL, hpd']
                rw [← this]; simp [dstL]
              rw [hdl] at hnd hW hFl hl ⊢
              have hmem : ∀ {x}, x ∈ dstL grp ++ pd :: dstL rest ↔ x ∈ dstL grp ∨ x = pd ∨ x ∈ dstL rest := by intro x; simp
              rw [List.nodup_append] at hnd
              obtain ⟨hndg, hndr, hdis⟩ := hnd
              rw [List.nodup_cons] at hndr
              have hdg : ∀ x, x ∈ dstL grp → x ≠ pd ∧ x ∉ dstL rest := fun x hx => ⟨fun hh => hdis x hx pd (by simp) hh, fun hh => hdis x hx x (by simp [hh]) rfl⟩
              have hgc := sameGuard_eq hpg
              have hbl : ∀ {d b}, e d = .bool b → d ∉ dstL grp ++ pd :: dstL rest := fun hb hm => by have := hl _ hm; rw [hb] at this; cases this
              have e2u : ∀ x, x ∉ dstL grp → x ≠ pd → Abs.set (clears e grp) pd (.bool v) x = e x := fun x h1 h2 => by rw [set_ne _ _ h2, clears_at.2 h1]
              -- what follows behind the pick
              have fin : ∀ (V1 : Vals), (∀ x, x ∉ dstL grp → V1 x = V0 x) → (∀ V' : Vals, (∀ x, ¬ F x → x ≠ pd → x ∉ dstL rest → V' x = V1 x) → V' pd = some (.bool v) → (∀ y ∈ grp, Loc τ call all W e0 V' y.1 y.2) ∧ Loc τ call all W e0 V' p pb) →
                  ∃ (V : Vals) (e' : Env), k e' = some r ∧ (∀ x, x ∉ dstL grp ++ pd :: dstL rest → V x = V0 x) ∧ (∀ x, x ∉ dstL grp ++ pd :: dstL rest → e' x = e x) ∧ (∀ x ∈ dstL grp ++ pd :: dstL rest, e' x = .undef ∨ V x = some (e' x)) ∧
                    ∀ V', (∀ x, ¬ F x → V' x = V x) → ∀ y ∈ grp ++ (p, pb) :: rest, Loc τ call all W e0 V' y.1 y.2 := by
                intro V1 hV1 hloc
                obtain ⟨V, e', h1, h2, h3, h4, h5⟩ := runHead_loc n cur rest (Abs.set (clears e grp) pd (.bool v)) k r (fun x => if x = pd then some (.bool v) else V1 x) F h
                  (fun j b hc => let ⟨d, q1, q2⟩ := hcur j b hc; ⟨d, q1, by
                    have hn := hbl q2
                    rw [e2u d (fun hh => hn (hmem.2 (.inl hh))) (fun hh => hn (hmem.2 (.inr (.inl hh))))]; exact q2⟩) hndr.2 (fun x hx => hW x (hmem.2 (.inr (.inr hx))))
                  (fun x hx => by
                    have hn := hFl x hx
                    rw [e2u x (fun hh => hn (hmem.2 (.inl hh))) (fun hh => hn (hmem.2 (.inr (.inl hh))))]; exact hF x hx) (fun x hx hh => hFl x hx (hmem.2 (.inr (.inr hh))))
                  (fun x hx => by
                    rw [e2u x (fun hh => (hdg x hh).2 hx) (fun hh => hndr.1 (hh ▸ hx))]; exact hl x (hmem.2 (.inr (.inr hx)))) (fun x => by
                    by_cases hxp : x = pd
                    · subst hxp
                      exact ⟨fun _ => .inr (by simp [set_same]), fun hw => by rw [hW x (hmem.2 (.inr (.inl rfl)))] at hw; cases hw⟩
                    · by_cases hxg : x ∈ dstL grp
                      · exact ⟨fun _ => .inl (by rw [set_ne _ _ hxp, clears_at.1 hxg]), fun hw => by rw [hW x (hmem.2 (.inl hxg))] at hw; cases hw⟩
                      · rw [e2u x hxg hxp]; simp only [hxp, if_false, hV1 x hxg]; exact he x)
                refine ⟨V, e', h1, fun x hx => ?_, fun x hx => ?_, fun x hx => ?_, fun V' hV' => ?_⟩
                · rw [h2 x fun hh => hx (hmem.2 (.inr (.inr hh)))]
                  simp only [show ¬ x = pd from fun hh => hx (hmem.2 (.inr (.inl hh))), if_false]
                  exact hV1 x fun hh => hx (hmem.2 (.inl hh))
                · rw [h3 x fun hh => hx (hmem.2 (.inr (.inr hh)))]
                  exact e2u x (fun hh => hx (hmem.2 (.inl hh))) (fun hh => hx (hmem.2 (.inr (.inl hh))))
                · rcases hmem.1 hx with hx | rfl | hx
                  · refine .inl ?_
                    rw [h3 x (hdg x hx).2, set_ne _ _ (hdg x hx).1, clears_at.1 hx]
                  · rw [h3 x hndr.1, h2 x hndr.1, set_same]; simp
                  · exact h4 x hx
                · have hpdF : ¬ F pd := fun hf => hFl pd hf (hmem.2 (.inr (.inl rfl)))
                  obtain ⟨q1, q2⟩ := hloc V' (fun x hf hp hr => by rw [hV' x hf, h2 x hr]; simp [hp]) (by rw [hV' pd hpdF, h2 pd hndr.1]; simp)
                  intro y hy
                  rcases List.mem_append.1 hy with hy | hy
                  · exact q1 y hy
                  · rcases List.mem_cons.1 hy with rfl | hy
                    · exact q2
                    · exact h5 V' hV' y hy
              have hpG : ∀ (m : Env), (∀ x, x ∉ dstL grp → m x = e x) → gHolds all m p pb := fun m hm j b hg => by
                obtain ⟨d, q1, q2⟩ := hcur j b (by rw [← hgc]; exact hg)
                refine ⟨d, q1, ?_, by rw [hm d fun hh => hbl q2 (hmem.2 (.inl hh))]; exact q2⟩
                have hg' : p.guard = some (j, b) := hg
                simp only [seesG, hg', q1] at hsee
                simpa using hsee
              have hoth : ∀ t, other t p = pick2 t px py := fun t => by
                have hpo' : p.op = .pick (.tmp d) px py := hpo
                unfold other; rw [hpo']
              rcases gate_inv hv with ⟨hcb, hx⟩ | ⟨hcb, hx⟩
              · subst hcb
                obtain ⟨V1, e1, k1, k2, k3, k4, k5⟩ := runHead_loc n (some (j, cc)) grp e (fun e' => opnd (maskE pb e') (other cc p) asBv) v V0 (fun x => F x ∨ x = pd ∨ x ∈ dstL rest) hx
                  (fun j' b' hc => by cases hc; exact ⟨d, hj, hed⟩) hndg (fun x hx => hW x (hmem.2 (.inl hx)))
                  (fun x hx => by
                    rcases hx with hx | rfl | hx
                    · exact hF x hx
                    · exact hl _ (hmem.2 (.inr (.inl rfl)))
                    · exact hl _ (hmem.2 (.inr (.inr hx))))
                  (fun x hx hg => by
                    rcases hx with hx | rfl | hx
                    · exact hFl x hx (hmem.2 (.inl hg))
                    · exact (hdg _ hg).1 rfl
                    · exact (hdg _ hg).2 hx) (fun x hx => hl x (hmem.2 (.inl hx))) he
                refine fin V1 k2 fun V' hV' hVp => ⟨k5 V' fun x hn => hV' x (fun hh => hn (.inl hh)) (fun hh => hn (.inr (.inl hh))) (fun hh => hn (.inr (.inr hh))), ?_⟩
                refine .pick e1 d cc px py v (stT_pick hpo) (fun x hb => ⟨fun hw => ?_, fun hw => ?_⟩) (hpG e1 k3) hpo hpb (by rw [k3 d fun hh => hbl hed (hmem.2 (.inl hh))]; exact hed) (by rw [← hoth]; exact k1) (fun d' hd' => by
                  have hpd' : dq p = some pd := hpd
                  rw [hpd'] at hd'; cases hd'; exact hVp)
                · by_cases hz : e1 x = .undef
                  · exact .inl hz
                  · have hnF : ¬ (F x ∨ x = pd ∨ x ∈ dstL rest) := fun hh => by
                      have hxg : x ∉ dstL grp := fun hg => by
                        rcases hh with hh | rfl | hh
                        · exact hFl x hh (hmem.2 (.inl hg))
                        · exact (hdg _ hg).1 rfl
                        · exact (hdg _ hg).2 hh
                      apply hz
                      rw [k3 x hxg]
                      rcases hh with hh | rfl | hh
                      · exact hF x hh
                      · exact hl _ (hmem.2 (.inr (.inl rfl)))
                      · exact hl _ (hmem.2 (.inr (.inr hh)))
                    refine .inr ?_
                    rw [hV' x (fun hh => hnF (.inl hh)) (fun hh => hnF (.inr (.inl hh))) (fun hh => hnF (.inr (.inr hh)))]
                    by_cases hxg : x ∈ dstL grp
                    · rcases k4 x hxg with hq | hq
                      · exact absurd hq hz
                      · exact hq
                    · rw [k2 x hxg, k3 x hxg]
                      rw [k3 x hxg] at hz
                      rcases (he x).1 hw with hq | hq
                      · exact absurd hq hz
                      · exact hq
                · rw [k3 x fun hg => by rw [hW x (hmem.2 (.inl hg))] at hw; cases hw]
                  exact (he x).2 hw
              · have hfits : ∀ (V' : Vals) (bad' : Nat), (∀ x, ¬ F x → x ≠ pd → x ∉ dstL rest → V' x = if x ∈ dstL grp then none else V0 x) → Fits W e0 V' bad' e := fun V' bad' hV' x _ => ⟨fun hw => by
                  by_cases hz : e x = .undef
                  · exact .inl hz
                  · have hnl : x ∉ dstL grp ++ pd :: dstL rest := fun hm => hz (hl x hm)
                    refine .inr ?_
                    rw [hV' x (fun hf => hz (hF x hf)) (fun hh => hnl (hmem.2 (.inr (.inl hh)))) (fun hh => hnl (hmem.2 (.inr (.inr hh)))), if_neg (fun hh => hnl (hmem.2 (.inl hh)))]
                    rcases (he x).1 hw with hq | hq
                    · exact absurd hq hz
                    · exact hq, (he x).2⟩
                refine fin (fun x => if x ∈ dstL grp then none else V0 x) (fun x hx => if_neg hx) fun V' hV' hVp => ⟨fun y hy => ?_, ?_⟩
                · obtain ⟨q1, q0, q2⟩ := grpOk_spec all hgrp y hy
                  have hyd : ∀ x, x ∈ dstL grp → V' x = none := fun x hx => by
                    rw [hV' x (fun hf => hFl x hf (hmem.2 (.inl hx))) (hdg x hx).1 (hdg x hx).2]; exact if_pos hx
                  have hy' : ∀ d', dq y.1 = some d' → V' d' = none := fun d' hd' => hyd d' (mem_dstL.2 ⟨y, hy, hd'⟩)
                  rcases q2 with q2 | ⟨j', b', d', q2, q3, q4⟩
                  · refine .skip e j b d q0 (hfits V' _ hV') q2 hj ?_ (.inl ⟨cc, hed, by rw [hcb]; simp⟩) hy'
                    simp only [seesG, q2, hj] at q1
                    simpa using q1
                  · have hd' : d' ∈ dstL grp := by
                      rcases q4 with q4 | q4
                      · rw [bitAt_zero] at q4; cases q4
                      · exact q4
                    refine .skip e j' b' d' q0 (hfits V' _ hV') q2 q3 ?_ (.inr ⟨hW d' (hmem.2 (.inl hd')), hyd d' hd'⟩) hy'
                    simp only [seesG, q2, q3] at q1
                    simpa using q1
                · refine .pick e d cc px py v (stT_pick hpo) (hfits V' _ hV') (hpG e fun _ _ => rfl) hpo hpb hed ?_ (fun d' hd' => by
                    have hpd' : dq p = some pd := hpd
                    rw [hpd'] at hd'; cases hd'; exact hVp)
                  rw [hcb, ← hoth]; exact hx
            · cases h
end
def refsTo (v : AV) (q : Nat) : Prop := match v with
  | .fptr p _ => p = q
  | .vw p _ _ => p = q
  | .vwc p _ _ _ => p = q
  | _ => False
open Classical in
/-- The env when some of the slots are written. -/
noncomputable def ED (W : Nat) (e0 : Env) (V : Vals) (Dn : Nat → Prop) : Env := fun x => if bitAt W x = true then (if Dn x then (V x).getD .undef else e0 x) else e0 x
structure HInv (τ : Tab) (B : Nat) (W : Nat) (e0 : Env) (V : Vals) (w0 : World) (c0 : Cls) (a0 : Act) (Dn : Nat → Prop) (a : Act) (w : World) : Prop where
  rel : ∃ c, Ext B w0 c0 w c ∧ SRel τ B w c (slots a) (ED W e0 V Dn)
  sk : ∀ x, bitAt W x = true → Dn x → V x = none → slots a x = undef
  rf : ∀ x q, refsTo (ED W e0 V Dn x) q → ¬ (bitAt W q = true ∧ ¬ Dn q)
  size : a.tmps.size = a0.tmps.size
  defers : a.defers = a0.defers
section
variable {P : Program} {τ : Tab} {B : Nat} {call : Nat → List AV → Option AV} {all : List Oper} {W : Nat} {e0 : Env} {V : Vals} {w0 : World} {c0 : Cls} {a0 : Act} {Dn : Nat → Prop} {a : Act} {w : World}
theorem ED_done {x : Nat} (hw : bitAt W x = true) (hd : Dn x) : ED W e0 V Dn x = (V x).getD .undef := by simp [ED, hw, hd]
theorem ED_out {x : Nat} (hw : bitAt W x = false) : ED W e0 V Dn x = e0 x := by simp [ED, hw]
theorem ED_more {dst : Option Nat} {x : Nat} (h : dst ≠ some x) : ED W e0 V (fun x => Dn x ∨ dst = some x) x = ED W e0 V Dn x := by
  have hh : (fun x => Dn x ∨ dst = some x) x = Dn x := propext ⟨fun q => q.resolve_right h, .inl⟩
  unfold ED; rw [hh]
theorem slots_ne {dst : Option Nat} {u : Value} {x : Nat} (h : dst ≠ some x) : slots (a.put dst u) x = slots a x := by
  cases dst with
  | none => rfl
  | some d =>
    have hne : d ≠ x := fun hh => h (by rw [hh])
    simp [slots, Act.put, Array.getElem?_setIfInBounds_ne hne]
theorem HInv.put (h : HInv τ B W e0 V w0 c0 a0 Dn a w) {c c' : Cls} {w' : World} {u : Value} {dst : Option Nat} (he : Ext B w0 c0 w c) (hs : SRel τ B w c (slots a) (ED W e0 V Dn)) (hx : Ext w.heap.size w c w' c')
    (hd : ∀ d, dst = some d → bitAt W d = true ∧ ¬ Dn d ∧ d < a0.tmps.size ∧ SlotR B w' c' (slots a) (ED W e0 V Dn) d u ((V d).getD .undef) ∧ (V d = none → u = undef) ∧ ∀ q, refsTo ((V d).getD .undef) q → ¬ (bitAt W q = true ∧ ¬ Dn q)) :
    HInv τ B W e0 V w0 c0 a0 (fun x => Dn x ∨ dst = some x) (a.put dst u) w' := by
  refine ⟨⟨c', he.trans (hx.mono hs.base), ?_⟩, fun x hw hdn hv => ?_, fun x q hr hq => ?_, put_size.trans h.size, put_defers.trans h.defers⟩
  · have h1 := hs.alloc hx
    cases hdst : dst with
    | none =>
      have : ED W e0 V (fun x => Dn x ∨ none = some x) = ED W e0 V Dn := by funext x; exact ED_more (by simp)
      rw [this]; exact h1
    | some d =>
      obtain ⟨q1, q2, q3, q4, q5, q6⟩ := hd d hdst
      rw [slots_put (by rw [h.size]; exact q3)]
      refine h1.put q4 (ED_done q1 (.inr rfl)) (fun s hsd => ?_) (fun hh s hsd => ?_)
      · rw [ED_more fun hh => hsd (by cases hh; rfl)]; exact .refl _
      · have hn : ∀ v, ED W e0 V (fun x => Dn x ∨ some d = some x) s = v → ¬ refsTo v d := fun v hv hr => by
          rw [ED_more fun hh => hsd (by cases hh; rfl)] at hv
          exact h.rf s d (hv ▸ hr) ⟨q1, q2⟩
        exact ⟨fun o hv => hn _ hv rfl, fun z l hv => hn _ hv rfl, fun o z l hv => hn _ hv rfl⟩
  · by_cases hdx : dst = some x
    · obtain ⟨q1, q2, q3, q4, q5, q6⟩ := hd x hdx
      have := q5 hv
      rw [hdx, slots_put (by rw [h.size]; exact q3), this]; simp [upd]
    · rw [slots_ne hdx]
      exact h.sk x hw (hdn.resolve_right hdx) hv
  · by_cases hdx : dst = some x
    · obtain ⟨q1, q2, q3, q4, q5, q6⟩ := hd x hdx
      rw [ED_done q1 (.inr hdx)] at hr
      exact q6 q hr ⟨hq.1, fun hh => hq.2 (.inl hh)⟩
    · rw [ED_more hdx] at hr
      exact h.rf x q hr ⟨hq.1, fun hh => hq.2 (.inl hh)⟩
theorem fits_weak {bad : Nat} {m : Env} (hf : Fits W e0 V bad m) (hbad : ∀ x, bitAt W x = true → bitAt bad x = false → Dn x) : ∀ x, Weak (ED W e0 V Dn x) (maskE bad m x) := fun x => by
  unfold maskE
  cases hb : bitAt bad x with
  | true => exact .undef _
  | false =>
    show Weak _ (m x)
    cases hw : bitAt W x with
    | true =>
      rcases (hf x hb).1 hw with h | h
      · rw [h]; exact .undef _
      · rw [ED_done hw (hbad x hw hb), h]; exact .refl _
    | false => rw [ED_out hw, (hf x hb).2 hw]; exact .refl _
theorem mask_out {bad x : Nat} {m : Env} (hb : bitAt bad x = false) : maskE bad m x = m x := by simp [maskE, hb, pick2]
/-- A flag in a slot. -/
theorem ED_start {x : Nat} (hd : ¬ Dn x) : ED W e0 V Dn x = e0 x := by simp [ED, hd]
theorem klc_same {s : Nat} {v : AV} (h : ¬ refsTo v s) : klc s v = v := by
  cases v <;> first
    | rfl
    | skip
  case vwc q off z l =>
    have h : ¬ q = s := h
    show pick2 (Nat.beq q s) _ _ = _
    cases hb : Nat.beq q s with
    | false => rfl
    | true => exact absurd (Nat.eq_of_beq_eq_true hb) h
theorem weak_eq {u v : AV} (hw : Weak u v) (h : (∃ b, v = .bool b) ∨ (∃ k n, v = .int k n) ∨ (∃ s, v = .str s) ∨ ∃ s c, v = .agg s c) : u = v := by
  rcases h with ⟨_, rfl⟩ | ⟨_, _, rfl⟩ | ⟨_, rfl⟩ | ⟨_, _, rfl⟩ <;> (cases hw; rfl)
theorem stBox_box {τ : Tab} {t : Nat} {x : Operand} {m : Env} {b v : AV} (h : stBox τ t m x b some = some v) : ∃ z cs mm z' cs' mm', b = .boxv z cs mm ∧ v = .boxv z' cs' mm' := by
  cases b with
  | boxv z cs mm =>
    have go : ∀ a : AV, (szOf τ t fun sz => guardK (Nat.ble (0 + sz) z) (cast τ t a fun a => cellsOf sz a fun c' => pick2 (Nat.beq 0 0 && Nat.beq sz z) (some (.boxv z c' [])) (getCs sz c' 0 fun l => some (.boxv z cs (putM 0 l mm))))) = some v → ∃ z' cs' mm', v = .boxv z' cs' mm' := by
      intro a hg
      obtain ⟨ti, hti, hg⟩ := szOf_inv hg
      obtain ⟨hle, hg⟩ := guardK_inv hg
      obtain ⟨a', hc, hg⟩ := cast_inv hg
      obtain ⟨cl, hcl, hg⟩ := cellsOf_inv hg
      cases hb : (Nat.beq 0 0 && Nat.beq ti.sz z) with
      | true => rw [hb] at hg; cases hg; exact ⟨_, _, _, rfl⟩
      | false =>
        rw [hb] at hg
        obtain ⟨l, hl1, hl2, hg⟩ := getCs_inv hg
        cases hg; exact ⟨_, _, _, rfl⟩
    have gop : ∀ a : AV, plainV a (fun a => szOf τ t fun sz => guardK (Nat.ble (0 + sz) z) (cast τ t a fun a => cellsOf sz a fun c' => pick2 (Nat.beq 0 0 && Nat.beq sz z) (some (.boxv z c' [])) (getCs sz c' 0 fun l => some (.boxv z cs (putM 0 l mm))))) = some v → ∃ z' cs' mm', v = .boxv z' cs' mm' := by
      intro a hg
      cases a <;> first | (cases hg; done) | exact go _ hg
    obtain ⟨z', cs', mm', hh⟩ : ∃ z' cs' mm', v = .boxv z' cs' mm' := by
      cases x with
      | tmp u => exact gop _ h
      | const cst => exact gop _ h
      | global g => cases h
      | func f => cases h
    exact ⟨z, cs, mm, z', cs', mm', rfl, hh⟩
  | _ => cases h
/-- A store among others is one on its own. -/
theorem stBox_store {τ : Tab} {t s : Nat} {x : Operand} {E m : Env} {z : Nat} {cs : List AV} {mm : List (Nat × AV)} {v : AV} (hw : ∀ x, Weak (E x) (m x)) (h : stBox τ t m x (.boxv z cs mm) some = some v) :
    storeBox τ E t s 0 z cs mm x some = some (Abs.set (killc s E) s v) := by
  have hk : stBox τ t m x (.boxv z cs mm) (fun bx => some (Abs.set (killc s E) s bx)) = some (Abs.set (killc s E) s v) := by rw [stBox_nat, h]; rfl
  rw [← hk]
  cases x with
  | tmp u =>
    have hu := hw u
    unfold stBox stOp at h
    dsimp only at h
    unfold storeBox stBox stOp
    show nz (unlit (E u)) _ = plainV (m u) _
    cases hm : m u <;> rw [hm] at hu <;> first
      | (rw [hm] at h; cases h; done)
      | skip
    all_goals
      have hE : E u = m u := by rw [hm]; exact weak_eq hu (by simp)
      rw [hE, hm]
      simp only [unlit, nz, plainV, storeK, litAt, hE, hm, putK]
  | const cst =>
    unfold stBox stOp at h
    dsimp only at h
    unfold storeBox stBox stOp
    show nz (cv cst) _ = plainV (cv cst) _
    generalize cv cst = a at *
    cases a <;> first
      | (cases h; done)
      | simp only [nz, plainV, storeK, litAt, putK]
  | global g => cases h
  | func f => cases h
/-- A flag in a slot. -/
theorem flag {bad d : Nat} {m : Env} {t : Bool} {c : Cls} (hs : SRel τ B w c (slots a) (maskE bad m)) (hb : bitAt bad d = false) (hm : m d = .bool t) : slots a d = .bool t := by
  have := hs.slot d
  rw [mask_out hb, hm] at this
  exact rep_bool this
theorem yield_of {ops : Array Oper} {j d : Nat} (hall : all = ops.toList) (hj : dstAt all j = some d) : yielded ops a.tmps j = match slots a d with | .bool b => some b | _ => none := by
  unfold dstAt at hj
  rw [hall] at hj
  split at hj
  · rename_i o ho
    have ho' : ops[j]? = some o := by simpa using ho
    unfold yielded slots
    rw [ho']
    simp only [Option.bind_some, hj]
    rw [Array.getD_eq_getD_getElem?]
    cases a.tmps[d]? with
    | none => rfl
    | some u => cases u <;> rfl
  · cases hj
/-- What looks at something sees the same in the whole env. -/
theorem SlotR.whole {c : Cls} {T : Nat → Value} {e e' : Env} {d : Nat} {u : Value} {v : AV} (h : SlotR B w c T e d u v) (hr : refOK e v) (hw : ∀ x, Weak (e' x) (e x)) : SlotR B w c T e' d u v := by
  cases v <;> first
    | exact h
    | skip
  case fptr q off =>
    obtain ⟨z, cs, m, hq⟩ := hr
    intro z' cs' m' hq'
    exact h z cs m hq
  case vw q z l =>
    obtain ⟨z', l', hq⟩ := hr
    exact ⟨h.1, fun _ _ _ => h.2 z' l' hq⟩
  case vwc q off z l =>
    obtain ⟨z', cs, m, hq⟩ := hr
    refine ⟨h.1, fun z2 cs2 m2 z3 l3 hq' ho => ?_⟩
    have := hw q
    rw [hq] at this
    have := this.eq_boxv
    rw [hq'] at this; cases this
    exact h.2 _ _ _ _ _ hq ho
theorem loc_step (hT : TabOK P τ) (hcall : ∀ f l r, call f l = some r → PC P τ f l r) {ops : Array Oper} {Q : Exit → Act → World → Prop} {K : Act → World → Prop} {i bad : Nat} {o : Oper} (hall : all = ops.toList) (ho : ops[i]? = some o)
    (h : HInv τ B W e0 V w0 c0 a0 Dn a w) (hl : Loc τ call all W e0 V o bad) (hbad : ∀ x, bitAt W x = true → bitAt bad x = false → Dn x) (hdst : ∀ d, dq o = some d → bitAt W d = true ∧ ¬ Dn d ∧ (stT o = none → d < a0.tmps.size))
    (hK : ∀ a' w', HInv τ B W e0 V w0 c0 a0 (fun x => Dn x ∨ dq o = some x) a' w' → K a' w') : wpOp P ops Q i K a w := by
  obtain ⟨c, he, hs⟩ := h.rel
  have wanted : ∀ {m : Env}, Fits W e0 V bad m → gHolds all m o bad → Region.wanted o (yielded ops a.tmps) = true := fun {m} hf hg => by
    unfold Region.wanted
    split
    · rfl
    · rename_i j b hgd
      obtain ⟨d, q1, q2, q3⟩ := hg j b hgd
      rw [yield_of hall q1, flag (hs.weak (fits_weak hf hbad)) q2 q3]; simp
  unfold wpOp
  rw [ho]
  cases hl with
  | store m t s x v hf hst hg hv hd =>
    obtain ⟨hop, hdn⟩ := stT_inv hst
    have hdq := dq_some hst
    obtain ⟨q1, q2, _⟩ := hdst s hdq
    obtain ⟨z, cs, mm, z', cs', mm', hb, rfl⟩ := stBox_box hv
    have hw : Region.wanted o (yielded ops a.tmps) = true := by simp [Region.wanted, hg]
    simp only [hw, if_true]
    have hsE : ED W e0 V Dn s = .boxv z cs mm := (ED_start q2).trans hb
    rw [hb] at hv
    have hst2 := stBox_store (s := s) (E := ED W e0 V Dn) (fits_weak hf hbad) hv
    refine .inl (sim_storeBox1 hT hop hdn hs hsE (fun b hb => hb) hst2 K Q fun a' w' ha => hK _ _ ?_)
    obtain ⟨⟨c', k1, k2, k3, k4⟩, rfl⟩ := ha
    have hED : ED W e0 V (fun x => Dn x ∨ dq o = some x) = Abs.set (killc s (ED W e0 V Dn)) s (.boxv z' cs' mm') := by
      funext x
      by_cases hx : x = s
      · subst hx
        rw [set_same, ED_done q1 (.inr hdq), hd]; rfl
      · rw [set_ne _ _ hx, ED_more (fun hh => hx (by rw [hdq] at hh; cases hh; rfl))]
        exact (klc_same fun hr => h.rf x s hr ⟨q1, q2⟩).symm
    refine ⟨⟨c', he.trans k1, by rw [hED]; exact k2⟩, fun x hw hdn hv => ?_, fun x q hr hq => ?_, h.size, h.defers⟩
    · by_cases hx : x = s
      · subst hx; rw [hd] at hv; cases hv
      · exact h.sk x hw (hdn.resolve_right fun hh => hx (by rw [hdq] at hh; cases hh; rfl)) hv
    · by_cases hx : x = s
      · subst hx
        rw [hED, set_same] at hr
        exact hr
      · rw [ED_more (fun hh => hx (by rw [hdq] at hh; cases hh; rfl))] at hr
        exact h.rf x q hr ⟨hq.1, fun hh => hq.2 (.inl hh)⟩
  | exec m v hst hf hg hv href hd =>
    rw [dq_none hst] at hK hdst hd
    have hs' := hs.weak (fits_weak hf hbad)
    simp only [wanted hf hg, if_true]
    refine .inl ((val_sim (d := o.dst.getD 0) hT hcall hs' hv) K Q fun u w' hu => hK _ _ ?_)
    obtain ⟨c', hx, hsl⟩ := hu
    refine h.put he hs hx fun d hdd => ?_
    obtain ⟨q1, q2, q3⟩ := hdst d hdd
    have q3 := q3 hst
    rw [hdd] at hsl
    rw [hd d hdd]
    refine ⟨q1, q2, q3, hsl.whole href (fits_weak hf hbad), (fun hh => by cases hh), fun q hr hq => ?_⟩
    have hqm : maskE bad m q ≠ .undef := by
      cases v <;> first
        | exact (hr : False).elim
        | (obtain rfl : _ = q := hr
           first
            | (obtain ⟨z, cs, mm, hh⟩ := href; rw [hh]; simp; done)
            | (obtain ⟨z, l, hh⟩ := href; rw [hh]; simp; done))
    have hqb : bitAt bad q = false := by
      cases hb : bitAt bad q with
      | false => rfl
      | true => exact absurd (by simp [maskE, hb, pick2]) hqm
    exact hq.2 (hbad q hq.1 hqb)
  | pick m d t x y v hst hf hg hop hb hm hx hd =>
    rw [dq_none hst] at hK hdst hd
    have hs' := hs.weak (fits_weak hf hbad)
    simp only [wanted hf hg, if_true]
    obtain ⟨b1, hb1, hx⟩ := opnd_inv hx
    obtain ⟨tb, e1, e2⟩ := asB_inv hx
    cases e2
    subst e1
    obtain ⟨q, hq⟩ := hb1.slot hs'
    have hv : a.eval (pick2 t x y) = .bool v := rep_bool hq
    have hdt : a.eval (.tmp d) = .bool t := flag hs' hb hm
    have hrun : (execOp a.eval o).run P w = .ok (.value (.bool v)) w := by
      rw [← hv]
      simp only [execOp, hop, hdt]
      cases t <;> simp [asBool, pick2]
    refine .inl (Does.value (R := fun u' w' => u' = .bool v ∧ w' = w) hrun ⟨rfl, rfl⟩ K Q fun u w' hu => hK _ _ ?_)
    obtain ⟨rfl, rfl⟩ := hu
    refine h.put he hs (Ext.refl ..) fun d' hdd => ?_
    obtain ⟨q1, q2, q3⟩ := hdst d' hdd
    have q3 := q3 hst
    rw [hd d' hdd]
    exact ⟨q1, q2, q3, Rep.bool v, (fun hh => by cases hh), fun q hr => (hr : False).elim⟩
  | skip m j b d hst hf hg hj hb hm hd =>
    rw [dq_none hst] at hK hdst hd
    have hs' := hs.weak (fits_weak hf hbad)
    have hno : Region.wanted o (yielded ops a.tmps) = false := by
      simp only [Region.wanted, hg]
      rw [yield_of hall hj]
      rcases hm with ⟨t, h1, h2⟩ | ⟨h1, h2⟩
      · rw [flag hs' hb h1]; simpa using h2
      · rw [h.sk d h1 (hbad d h1 hb) h2]; rfl
    simp only [hno, Bool.false_eq_true, if_false]
    refine hK _ _ (h.put he hs (Ext.refl ..) fun d' hdd => ?_)
    obtain ⟨q1, q2, q3⟩ := hdst d' hdd
    have q3 := q3 hst
    rw [hd d' hdd]
    exact ⟨q1, q2, q3, trivial, fun _ => rfl, fun q hr => (hr : False).elim⟩
end
end Go.Proofs.YtmdimhcjogjcgaaGreatDoor.Abs
