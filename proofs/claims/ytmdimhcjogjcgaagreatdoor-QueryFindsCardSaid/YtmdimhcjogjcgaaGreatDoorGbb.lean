/- What 'append' takes; the cells of boxes. -/
import Derived.Test.YtmdimhcjogjcgaaGreatDoorGah
set_option linter.all false
noncomputable section
namespace Go.Proofs.YtmdimhcjogjcgaaGreatDoor.Abs
open Go.RowKit
theorem bcd (m : List (Nat × AV)) (off j : Nat) : ovr (ux m off) j = if off = j then none else ovr m j := by
 induction m with
 | nil => simp [ux, ovr]
 | cons x m ih =>
  obtain ⟨q, y⟩ := x
  by_cases hq : q = off
  ·subst hq
   simp only [ux, ans, ag, ih, ovr]
   by_cases hj : q = j
   ·simp [hj]
   ·simp [hj, iv hj]
  ·simp only [ux, iv hq, ag, ovr]
   by_cases hj : q = j
   ·subst hj; simp [Ne.symm hq]
   ·simp only [iv hj]; exact ih
theorem tn (m : List (Nat × AV)) (off j : Nat) (y : AV) : ovr ((off, y) :: m) j = if off = j then some y else ovr m j := by
 simp only [ovr]
 by_cases hj : off = j
 ·subst hj; simp [ag]
 ·simp [hj, iv hj, ag]
theorem sn (m : List (Nat × AV)) (off j : Nat) (y : AV) : ovr ((off, y) :: ux m off) j = if off = j then some y else ovr m j := by
 rw [tn, bcd]; split <;> rfl
theorem agq : ∀ (l : List AV) (o j : Nat) (m : List (Nat × AV)), ovr (afp o l m) j = if o ≤ j ∧ j < o + l.length then l[j - o]? else ovr m j
 | [], o, j, m => by simp [afp]; intro h1 h2; omega
 | y :: l, o, j, m => by
  rw [afp, agq l (o + 1) j, sn]
  by_cases h1 : o = j
  ·subst h1
   rw [if_neg (by omega), if_pos rfl, if_pos (by simp)]; simp
  ·by_cases h2 : o + 1 ≤ j ∧ j < o + 1 + l.length
   ·rw [if_pos h2, if_pos (by simp only [List.length_cons]; omega), show j - o = (j - (o + 1)) + 1 by omega]; simp
   ·rw [if_neg h2, if_neg h1, if_neg (by simp only [List.length_cons]; omega)]
theorem aur (d : Nat) (a : AV) : jj a (klc d a) := by
 cases a <;> first
  | exact .refl _
  | skip
 case vwc q o z l => show jj _ (ag _ _ _); cases Nat.beq q d <;> first | exact .refl _ | exact .vwc ..
theorem a3v (d : Nat) (a : AV) : ∀ o z l, klc d a ≠ .vwc d o z l := by
 cases a <;> first
  | (intro o z l; simp [klc]; done)
  | skip
 case vwc q o z l =>
  by_cases h : q = d
  ·subst h; simp [klc, ag]
  ·simp [klc, ag, iv h, h]
theorem jj.biy {x : AV} {q z : Nat} {l : List (List AV)} (h : jj x (.vw q z l)) : x = .vw q z l := by cases h; rfl
theorem jj.ax8 {x : AV} {q o : Nat} (h : jj x (.fptr q o)) : x = .fptr q o := by cases h; rfl
section
variable {P : Program} {τ : Tab} {B : Nat} {w : World} {c : Cls} {a : Act} {e : Env} {o : Oper} {d : Nat} {v : AV} {call : Nat → List AV → Option AV}
theorem im.om {w' : World} {c' : Cls} {h : ld} {u : Value} {sz : Nat} {l : List (List AV)} (hx : Ext B w c w' c') (hk : ∀ q st, c q = .own st h → w'.heap[q]? = w.heap[q]? ∧ c' q = c q) (ho : im B w c h u sz l) : im B w' c' h u sz l := by
 refine ⟨ho.1.ext hx, ho.2.imp id ?_⟩
 rintro ⟨b, cap, vs, ty, h1, h2, h3, h4, h5, h6, h7⟩
 obtain ⟨k1, k2⟩ := hk b _ h7
 exact ⟨b, cap, vs, ty, h1, h2, k1.trans h3, h4, h5, h6, k2.trans h7⟩
theorem cr.bai {w' : World} {c' : Cls} {T : Nat → Value} {e0 e' : Env} {z z' : Nat} {cs cs' : List AV} {m m' : List (Nat × AV)} (h0 : cr τ B w' c' T e0) (hs : cr τ B w c T e) (hd : e d = .boxv z cs m) (hd' : e' d = .boxv z' cs' m')
  (hb : xt B w' c' d (T d) z' cs' m') (hw0 : ∀ s, s ≠ d → jj (e s) (e0 s)) (hw : ∀ s, s ≠ d → jj (e0 s) (e' s)) (hn : ∀ s, s ≠ d → ∀ o z l, e' s ≠ .vwc d o z l) : cr τ B w' c' T e' := by
 refine ⟨h0.base, h0.g, fun s => ?_⟩
 by_cases hsd : s = d
 ·subst hsd
  rw [hd']
  exact hb
 ·by_cases hv : ∃ z l, e' s = .vw d z l
  ·obtain ⟨z2, l2, hv⟩ := hv
   have h1 : e0 s = .vw d z2 l2 := (hv ▸ hw s hsd).biy
   have := h0.slot s
   rw [h1] at this
   rw [hv]
   exact ⟨this.1, fun z l hx => by rw [hd'] at hx; cases hx⟩
  by_cases hf : ∃ o, e' s = .fptr d o
  ·obtain ⟨o, hf⟩ := hf
   have h1 : e0 s = .fptr d o := (hf ▸ hw s hsd).ax8
   have h2 : e s = .fptr d o := (h1 ▸ hw0 s hsd).ax8
   have := hs.slot s
   rw [h2] at this
   rw [hf]
   intro z2 cs2 m2 _
   exact this z cs m hd
  ·refine (h0.slot s).qv (hw s hsd) fun q hq => ?_
   by_cases hqd : q = d
   ·subst hqd
    rcases hq with ⟨o, hx⟩ | ⟨z, l, hx⟩ | ⟨o, z, l, hx⟩
    ·exact absurd ⟨o, hx⟩ hf
    ·exact absurd ⟨z, l, hx⟩ hv
    ·exact absurd hx (hn s hsd o z l)
   ·exact .inl ⟨hw q hqd, rfl⟩
theorem aus {j : Nat} {cs : List AV} {m : List (Nat × AV)} {z : Nat} {b : Nat} {vs : Array Value} {y : AV} (hb : xt B w c d (.pointer (some ⟨b, 0, none⟩)) z cs m) (hv : ∃ ty, w.heap[b]? = some (.cells vs ty (0, 0)))
  (hy : ovr m j = some y ∨ (ovr m j = none ∧ cs[j]? = some y)) : ∃ u, vs[j]? = some u ∧ ur B w c d j u y := by
 obtain ⟨b', vs', ty', e1, _, h3, _, h5, h6, h7, h8, h9⟩ := hb
 cases e1
 obtain ⟨ty, hv⟩ := hv
 rw [h3] at hv; cases hv
 rcases hy with hy | ⟨hn, hy⟩
 ·have hj := h9 j y hy
  have : vs[j]? = some vs[j] := by simp [h5, hj]
  exact ⟨_, this, h8 j y _ hy this⟩
 ·have hj : j < z := by rw [← h6]; exact (List.getElem?_eq_some_iff.1 hy).1
  obtain ⟨u, this⟩ : ∃ u, vs[j]? = some u := ⟨vs[j], by simp [h5, hj]⟩
  have hr := h7 j y _ hn hy this
  refine ⟨_, this, ?_⟩
  cases y <;> first | exact hr | cases hr
theorem a8l {sz : Nat} {x : Operand} {α : Type} {r : α} {k : List (List AV) → Env → Option α} (hs : cr τ B w c (bj a) e) (h : aft e sz x k = some r) :
  ∃ l e1 H, k l e1 = some r ∧ cr τ B w c (bj a) e1 ∧ im B w c H (a.eval x) sz l ∧ ¬ Live e1 H := by
 unfold aft at h
 split at h
 ·rename_i s
  have hso := hs.slot s
  cases hes : e s <;> rw [hes] at h hso <;> first
   | cases h
   | skip
  ·have hq : Rep w c _ .nil := hso
   refine ⟨[], e, .ret 0, h, hs, ?_, fun hh => hh⟩
   rw [af0]
   generalize bj a s = u at *
   cases hq
   exact ⟨.nil _, .inl ⟨rfl, rfl⟩⟩
  ·rename_i z l
   obtain ⟨hz, g⟩ := cw h
   obtain rfl := Nat.eq_of_beq_eq_true hz
   refine ⟨l, _, .slot s, g, hs.qv fun t => ?_, hso, ?_⟩
   ·by_cases ht : t = s
    ·subst ht; rw [ej, hes]; exact .own ..
    ·rw [ia _ _ ht]; exact .refl _
   ·rintro ⟨z', l', hx⟩
    rw [ej] at hx; cases hx
  ·rename_i q z0 l0
   obtain ⟨l, hq, g⟩ := ant (show asO sz (e q) _ = some r from h)
   have hqo := hs.slot q
   rw [hq] at hqo
   have hsq : bj a s = bj a q := hso.2 sz l hq
   have hqs : q ≠ s := fun hh => by rw [hh, hes] at hq; cases hq
   have h1 : cr τ B w c (bj a) (Abs.set e q (.sl sz l)) := hs.qv fun t => by
    by_cases ht : t = q
    ·subst ht; rw [ej, hq]; exact .own ..
    ·rw [ia _ _ ht]; exact .refl _
   refine ⟨l, _, .slot q, g, h1.again (d := s) (v := .sl sz l) (by rw [hsq]; exact hqo.1) rfl rfl, by rw [af0, hsq]; exact hqo, ?_⟩
   rintro ⟨z', l', hx⟩
   rw [ia _ _ hqs, ej] at hx; cases hx
  ·rename_i q off z0 l0
   have h : (match e q with
    | .boxv bz c m => aba c m off fun a => asO sz a fun l => k l (set (uo q (set e q (.boxv bz c ((off, .sl sz l) :: ux m off)))) s (.sl sz l))
    | _ => none) = some r := h
   split at h
   ·rename_i bz cs m heq
    obtain ⟨y, hy, g⟩ := afz h
    obtain ⟨l, e1, g0⟩ := ant g
    subst e1
    have hqo := hs.slot q
    rw [heq] at hqo
    obtain ⟨b, vs, ty, h1, h2, h3, h4, h5, h6, h7, h8, h9⟩ := hqo
    have hbox : xt B w c q (bj a q) bz cs m := ⟨b, vs, ty, h1, h2, h3, h4, h5, h6, h7, h8, h9⟩
    have hy' : ovr m off = some (.own sz l) := by
     rcases hy with hy | ⟨hn, hy⟩
     ·exact hy
     ·obtain ⟨u, _, hu⟩ := aus (h1 ▸ hbox) ⟨ty, h3⟩ (.inr ⟨hn, hy⟩)
      have hj : off < bz := by rw [← h6]; exact (List.getElem?_eq_some_iff.1 hy).1
      obtain ⟨u0, hu0⟩ : ∃ u, vs[off]? = some u := ⟨vs[off], by simp [h5, hj]⟩
      have := h7 off _ u0 hn hy hu0
      cases this
    obtain ⟨b', g1, g2⟩ := hso.2 bz cs m sz l heq hy'
    rw [h1] at g1; cases g1
    rw [cell_of h3] at g2
    have hown : im B w c (.cell q off) (bj a s) sz l := h8 off _ _ hy' g2
    have hqs : q ≠ s := fun hh => by rw [hh, hes] at heq; cases heq
    have hnew : cr τ B w c (bj a) (uo q (Abs.set e q (.boxv bz cs ((off, .sl sz l) :: ux m off)))) := by
     refine cr.bai (e0 := e) (z' := bz) (cs' := cs) (m' := (off, .sl sz l) :: ux m off) hs hs heq (by show klc q _ = _; rw [ej]; rfl) ⟨b, vs, ty, h1, h2, h3, h4, h5, h6, fun j x u p1 p2 p3 => ?_, fun j x u p1 p2 => ?_, fun j x p1 => ?_⟩ (fun s _ => .refl _) (fun s hs => ?_) (fun s hs => ?_)
     ·rw [sn] at p1
      split at p1
      ·cases p1
      ·exact h7 j x u p1 p2 p3
     ·rw [sn] at p1
      split at p1
      ·rename_i hj
       cases p1
       subst hj
       rw [g2] at p2; cases p2
       exact hown.1
      ·exact h8 j x u p1 p2
     ·rw [sn] at p1
      split at p1
      ·rename_i hj; subst hj; exact h9 _ _ hy'
      ·exact h9 j x p1
     ·show jj _ (klc q _)
      rw [ia _ _ hs]; exact aur ..
     ·show ∀ o z l, klc q _ ≠ _
      exact a3v _ _
    refine ⟨l, _, .cell q off, g0, hnew.again (d := s) (v := .sl sz l) hown.1 rfl rfl, by rw [af0]; exact hown, ?_⟩
    rintro ⟨z', cs', m', s', l', hx, hx'⟩
    rw [ia _ _ hqs] at hx
    have : klc q (Abs.set e q (.boxv bz cs ((off, .sl sz l) :: ux m off)) q) = _ := hx
    rw [ej] at this
    cases this
    rw [sn, if_pos rfl] at hx'
    cases hx'
   ·cases h
 ·exact ⟨[], e, .ret 0, h, hs, ⟨.nil _, .inl ⟨rfl, rfl⟩⟩, fun hh => hh⟩
 ·cases h
theorem azy (hT : ey P τ) {x y : Operand} {t0 t1 : Nat} {e' : Env} (ho : o.op = .call ⟨.builtin .append, ⟨[x, y]⟩, ⟨[t0, t1]⟩⟩) (hs : cr τ B w c (bj a) e) (hd : ∀ d, o.dst = some d → d < a.tmps.size)
  (h : aq (Nat.beq t0 t1) (qd τ t0 fun sz => ff e y fun b => asL sz b fun ys => aft e sz x fun l e' => aq (Nat.ble (l.length + ys.length) lim) (some (pk e' o.dst (.own sz (l ++ ys))))) = some e') :
  Steps P o a w (xl τ B a w c e') := by
 obtain ⟨ht, g⟩ := cw h
 obtain rfl := Nat.eq_of_beq_eq_true ht
 obtain ⟨el, s, bb, z, ti, hti, hte, g⟩ := uf g
 obtain ⟨b1, hb, g⟩ := dm g
 obtain ⟨q, hq⟩ := hb.slot hs
 obtain ⟨ys, hys, g⟩ := ya g
 have hy := hq.isL hys
 obtain ⟨l, e1, H, g, hs1, hown, hn⟩ := a8l hs g
 obtain ⟨hlim, g⟩ := cw g
 have hlim : l.length + ys.length ≤ lim := by simpa using hlim
 cases g
 obtain ⟨i, zv, h1, h2, h3, h4, h5, h6, h7⟩ := (hT el _ hte).info
 obtain ⟨v', w', c', hr, hx, hs', ho'⟩ := av6 (d := o.dst.getD 0) (ty := o.type) hs1 hn hown hy (zm hT hti) h1 h4 h2 h5 (hT el _ hte).pos ((hT t0 _ hti).kind.1.2 i h1) hlim
 refine (ij.value (R := fun u' w2 => u' = v' ∧ w2 = w') (u := v') (w' := w') ?_ ⟨rfl, rfl⟩).steps fun u' w2 hu => ?_
 ·simp only [execOp, ho, resolve, invoke, builtin, Sem.run_bind, Sem.run_pure, Result.andThen_ok, List.map_toArray, List.map_cons, List.map_nil, hr]
 ·obtain ⟨rfl, rfl⟩ := hu
  refine ⟨c', hx, ?_, qw, put_defers⟩
  cases hdst : o.dst with
  | none => exact hs'
  | some d =>
   rw [hdst] at ho'
   rw [ve (hd d hdst)]
   exact hs'.pk (v := .own ti.sz (l ++ ys)) ho'
end
end Go.Proofs.YtmdimhcjogjcgaaGreatDoor.Abs
namespace Go.Proofs.YtmdimhcjogjcgaaGreatDoor.Abs
open Go.RowKit
section
variable {P : Program} {τ : Tab} {B : Nat} {w : World} {c : Cls} {a : Act} {e : Env} {o : Oper} {d : Nat} {v : AV} {call : Nat → List AV → Option AV}
theorem run_store {t sz b off : Nat} {vs : Array Value} {ty : TypeId} {u : Value} (hsz : (sizeOf t).run P w = .ok sz w) (hb : w.heap[b]? = some (.cells vs ty (0, 0))) (hu : u.cells.size = sz) (hfit : off + sz ≤ vs.size) (h1 : ∀ y ∈ u.cells.toList, y.oneCell' = true) :
  (Instr.storeAt t (.pointer (some ⟨b, off, none⟩)) u).run P w = .ok () (w.setRow b (vs.toList.take off ++ u.cells.toList ++ vs.toList.drop (off + sz)).toArray) := by
 have hst := run_storeCells_at P b off ty u.cells.toList 0 vs w hb (by simp [hu]; exact hfit) h1
 simp only [Nat.add_zero, Array.length_toList, hu] at hst
 simp [Instr.storeAt, Instr.sureAddr, storeVar, hsz, hu, hst]
structure a3w (B : Nat) (w : World) (c : Cls) (w' : World) (c' : Cls) (d b off sz : Nat) (vs nc : Array Value) (us : List Value) (ty : TypeId) : Prop where
 ext : Ext B w c w' c'
 heap : w'.heap[b]? = some (.cells nc ty (0, 0))
 cls : c' b = .box d
 size : nc.size = vs.size
 new : ∀ j, off ≤ j → j < off + sz → nc[j]? = us[j - off]?
 old : ∀ j, ¬ (off ≤ j ∧ j < off + sz) → nc[j]? = vs[j]?
theorem azz {e0 : Env} {H H' : ld} {b off sz : Nat} {vs : Array Value} {ty : TypeId} {us : List Value} (h0 : cr τ B w c (bj a) e0) (hn : ¬ Live e0 H) (hd : ∀ z cs m, e0 d ≠ .boxv z cs m) (hB : B ≤ b)
  (hb : w.heap[b]? = some (.cells vs ty (0, 0))) (hc : c b = .box d) (hus : us.length = sz) (hfit : off + sz ≤ vs.size) :
  ∃ w' nc, w' = w.setRow b (vs.toList.take off ++ us ++ vs.toList.drop (off + sz)).toArray ∧ cr τ B w' (reh B c H H') (bj a) e0 ∧ a3w B w c w' (reh B c H H') d b off sz vs nc us ty := by
 have hc' : reh B c H H' b = .box d := by simp [reh, hc]
 have htl : (vs.toList.take off).length = off := by simp; omega
 have hx : Ext B w c (w.setRow b (vs.toList.take off ++ us ++ vs.toList.drop (off + sz)).toArray) (reh B c H H') := by
  refine ⟨rfl, rfl, rfl, by simp [World.setRow], fun q hq hq' => ⟨setRow_other w b q _ (by omega), ?_⟩, fun q j y hy hst => ?_⟩
  ·exact ((ab7 B w c H H').old q hq hq').2
  ·have hqb : q ≠ b := fun hh => by subst hh; unfold ga at hst; rw [hc] at hst; exact hst
   exact ⟨by rw [cell_setRow_other w b _ _ hqb]; exact hy, (ass q j).2 hst⟩
 refine ⟨_, (vs.toList.take off ++ us ++ vs.toList.drop (off + sz)).toArray, rfl, h0.change hx fun q hq hl => ?_, hx, setRow_heap w b vs _ ty (0, 0) hb, hc', ?_, fun j h1 h2 => ?_, fun j hj => ?_⟩
 ·have hqb : q ≠ b := fun hh => by subst hh; rw [hc] at hl; obtain ⟨z, cs, m, hl⟩ := hl; exact hd z cs m hl
  exact ⟨setRow_other w b q _ hqb, (an0 (w := w) (B := B) (h' := H') hn q hq hl).2⟩
 ·simp only [List.size_toArray, List.length_append, htl, List.length_drop, Array.length_toList, hus]; omega
 ·simp only [List.getElem?_toArray]
  rw [List.append_assoc, List.getElem?_append_right (by rw [htl]; exact h1), htl, List.getElem?_append_left (by omega)]
 ·simp only [List.getElem?_toArray]
  by_cases h1 : j < off
  ·rw [List.append_assoc, List.getElem?_append_left (by rw [htl]; exact h1), List.getElem?_take, if_pos h1]; simp
  ·rw [List.getElem?_append_right (by rw [List.length_append, htl, hus]; omega), List.length_append, htl, hus, List.getElem?_drop]
   rw [show off + sz + (j - (off + sz)) = j by omega]; simp
theorem az0 {w' : World} {T : Nat → Value} {H H' : ld} {b off sz z : Nat} {vs nc : Array Value} {ty : TypeId} {us : List Value} {cs cs' : List AV} {m m' : List (Nat × AV)} (hT : T d = .pointer (some ⟨b, 0, none⟩)) (hB : B ≤ b)
  (hz : vs.size = z) (hcs' : cs'.length = z) (h7 : ∀ (j : Nat) (x : AV) (u : Value), ovr m j = none → cs[j]? = some x → vs[j]? = some u → Rep w c u x) (h8 : ∀ (j : Nat) (x : AV) (u : Value), ovr m j = some x → vs[j]? = some u → ur B w c d j u x)
  (h9 : ∀ (j : Nat) (x : AV), ovr m j = some x → j < z) (hst : a3w B w c w' (reh B c H H') d b off sz vs nc us ty) (hfit : off + sz ≤ z)
  (hother : ∀ q, q ≠ b → w'.heap[q]? = w.heap[q]?) (hcb : c b = .box d) (hH : ∀ j, H ≠ .cell d j)
  (hold : ∀ j, ¬ (off ≤ j ∧ j < off + sz) → ovr m' j = ovr m j ∧ cs'[j]? = cs[j]?)
  (hnew1 : ∀ (j : Nat) (x : AV) (u : Value), off ≤ j → j < off + sz → ovr m' j = some x → us[j - off]? = some u → ur B w' (reh B c H H') d j u x)
  (hnew2 : ∀ (j : Nat) (x : AV) (u : Value), off ≤ j → j < off + sz → ovr m' j = none → cs'[j]? = some x → us[j - off]? = some u → Rep w' (reh B c H H') u x) :
  xt B w' (reh B c H H') d (T d) z cs' m' := by
 refine ⟨b, nc, ty, hT, hB, hst.heap, hst.cls, by rw [hst.size, hz], hcs', fun j x u p1 p2 p3 => ?_, fun j x u p1 p2 => ?_, fun j x p1 => ?_⟩
 ·by_cases hj : off ≤ j ∧ j < off + sz
  ·rw [hst.new j hj.1 hj.2] at p3
   exact hnew2 j x u hj.1 hj.2 p1 p2 p3
  ·rw [hst.old j hj] at p3
   obtain ⟨q1, q2⟩ := hold j hj
   rw [q1] at p1; rw [q2] at p2
   exact (h7 j x u p1 p2 p3).ext hst.ext
 ·by_cases hj : off ≤ j ∧ j < off + sz
  ·rw [hst.new j hj.1 hj.2] at p2
   exact hnew1 j x u hj.1 hj.2 p1 p2
  ·rw [hst.old j hj] at p2
   obtain ⟨q1, q2⟩ := hold j hj
   rw [q1] at p1
   have := h8 j x u p1 p2
   cases x <;> first
    | exact Rep.ext hst.ext this
    | skip
   refine im.om hst.ext (fun q st hq => ?_) this
   have hqb : q ≠ b := fun hh => by subst hh; rw [hcb] at hq; cases hq
   refine ⟨hother q hqb, ?_⟩
   simp only [reh, hq]
   rw [if_neg (fun hh => hH j hh.2.symm)]
 ·by_cases hj : off ≤ j ∧ j < off + sz
  ·omega
  ·rw [(hold j hj).1] at p1; exact h9 j x p1
theorem akv : ∀ {mm : List (Nat × Nat)} {j : Nat} {y : AV}, ovr (aj7 mm) j = some y → ∃ q, y = .own q [] ∧ (j, q) ∈ mm
 | [], _, _, h => by cases h
 | (i, z) :: r, j, y, h => by
  have h : ag (Nat.beq i j) (some (.own z [])) (ovr (aj7 r) j) = some y := h
  cases hb : Nat.beq i j with
  | true =>
   rw [hb] at h
   obtain rfl := Nat.eq_of_beq_eq_true hb
   cases h
   exact ⟨z, rfl, List.mem_cons_self ..⟩
  | false =>
   rw [hb] at h
   obtain ⟨q, h1, h2⟩ := akv (mm := r) h
   exact ⟨q, h1, List.mem_cons_of_mem _ h2⟩
def aut (τ : Tab) (B : Nat) (a : Act) (w : World) (c : Cls) (e' : Env) : Act → World → Prop := fun a' w' => xl τ B a w c e' a' w' ∧ a' = a
theorem ag4 (hT : ey P τ) {t s off z : Nat} {x : Operand} {cs : List AV} {m : List (Nat × AV)} {e' : Env} (ho : o.op = .store t (.tmp s) x) (hdst : o.dst = none) (hs : cr τ B w c (bj a) e) (hd : e d = .boxv z cs m)
  (hp : ∀ b, bj a d = .pointer (some ⟨b, 0, none⟩) → bj a s = .pointer (some ⟨b, off, none⟩)) (h : ox τ e t d off z cs m x some = some e') : Steps P o a w (aut τ B a w c e') := by
 unfold ox at h
 obtain ⟨y, hy, g⟩ := dm h
 obtain ⟨q, hq⟩ := hy.slot hs
 obtain ⟨ti, hti, g⟩ := nh g
 obtain ⟨hle, g⟩ := cw g
 have hle : off + ti.sz ≤ z := by simpa using hle
 have hbox := hs.slot d
 rw [hd] at hbox
 obtain ⟨b, vs, ty, h1, h2, h3, h4, h5, h6, h7, h8, h9⟩ := hbox
 have hps : a.eval (.tmp s) = .pointer (some ⟨b, off, none⟩) := hp b h1
 have fin : ∀ (e0 : Env) (H H' : ld) (cs' : List AV) (m' : List (Nat × AV)), (∀ s, s ≠ d → jj (e s) (e0 s)) → ¬ Live (Abs.set e0 d .undef) H → (∀ j, H ≠ .cell d j) → cr τ B w c (bj a) e0 → e' = Abs.set (uo d e0) d (.boxv z cs' m') →
   (a.eval x).cells.size = ti.sz → (∀ y ∈ (a.eval x).cells.toList, y.oneCell' = true) → cs'.length = z →
   (∀ j, ¬ (off ≤ j ∧ j < off + ti.sz) → ovr m' j = ovr m j ∧ cs'[j]? = cs[j]?) →
   (∀ (w' : World) (j : Nat) (y : AV) (u : Value), Ext B w c w' (reh B c H H') → (∀ q, q ≠ b → w'.heap[q]? = w.heap[q]?) → off ≤ j → j < off + ti.sz → ovr m' j = some y → (a.eval x).cells.toList[j - off]? = some u → ur B w' (reh B c H H') d j u y) →
   (∀ (j : Nat) (y : AV) (u : Value), off ≤ j → j < off + ti.sz → ovr m' j = none → cs'[j]? = some y → (a.eval x).cells.toList[j - off]? = some u → Rep w c u y) →
   Steps P o a w (aut τ B a w c e') := by
  intro e0 H H' cs' m' hw0 hn hH hs0 he' hsz hone hcs' hold hnew1 hnew2
  have hsU : cr τ B w c (bj a) (Abs.set e0 d .undef) := hs0.qv fun s => by
   by_cases hsd : s = d
   ·subst hsd; rw [ej]; exact .undef _
   ·rw [ia _ _ hsd]; exact .refl _
  obtain ⟨w', nc, hw', hs', hst⟩ := azz (H := H) (H' := H') (us := (a.eval x).cells.toList) (sz := ti.sz) hsU hn (fun z cs m hh => by rw [ej] at hh; cases hh) h2 h3 h4 (by simp [hsz]) (by rw [h5]; exact hle)
  have hrun : (execOp a.eval o).run P w = .ok .skip w' := by
   simp only [execOp, ho, Sem.run_bind, hps, run_store (rz hT hti) h3 hsz (by rw [h5]; exact hle) hone, Result.andThen_ok, Sem.run_pure, hw']
  have hoth : ∀ q, q ≠ b → w'.heap[q]? = w.heap[q]? := fun q hq => by rw [hw']; exact setRow_other w b q _ hq
  have hb := az0 (T := bj a) (m' := m') (cs' := cs') h1 h2 h5 hcs' h7 h8 h9 hst hle hoth h4 hH hold (fun j y u p1 p2 p3 p4 => hnew1 w' j y u hst.ext hoth p1 p2 p3 p4) (fun j y u p1 p2 p3 p4 p5 => (hnew2 j y u p1 p2 p3 p4 p5).ext hst.ext)
  refine (ij.skip (R := fun _ w2 => w2 = w') hrun rfl).steps fun u' w2 hu => ?_
  subst hu
  refine ⟨⟨_, hst.ext, ?_, qw, put_defers⟩, by rw [hdst]; rfl⟩
  rw [hdst]
  refine hs'.bai hs hd (e' := e') (by rw [he', ej]) hb (fun s hsd => by rw [ia _ _ hsd]; exact hw0 s hsd) (fun s hsd => ?_) (fun s hsd => ?_)
  ·rw [he', ia _ _ hsd, ia _ _ hsd]; exact aur ..
  ·rw [he', ia _ _ hsd]; exact a3v _ _
 have old : afu τ e t d off z ti.sz cs m x y some = some e' → Steps P o a w (aut τ B a w c e') := by
  clear g
  intro g
  unfold afu at g
  split at g
  ·rename_i s' zz l _ _
   obtain ⟨el, s1, bb, z1, te, htt, hte, g⟩ := uf g
   obtain ⟨hzz, g⟩ := cw g
   cases g
   have h1sz : ti.sz = 1 := by rw [hti] at htt; cases htt; exact (hT t _ hti).kind.2
   have hes : e s' = .own zz l := by
    obtain ⟨_, ⟨t, k1, k2⟩ | ⟨k, k1, _⟩ | ⟨f, k1, _⟩⟩ := hy <;> cases k1
    exact ahl k2
   have hown := hs.slot s'
   rw [hes] at hown
   have hown : im B w c (.slot s') (a.eval (.tmp s')) zz l := hown
   have hone := ab6 hown.1
   have hcl : (a.eval (.tmp s')).cells = #[a.eval (.tmp s')] := by generalize a.eval (.tmp s') = u at *; cases u <;> first | rfl | cases hone
   have hsd : s' ≠ d := fun hh => by rw [hh, hd] at hes; cases hes
   refine fin (Abs.set e s' (.sl zz l)) (.slot s') (.cell d off) cs ((off, .own zz l) :: ux m off) (fun t _ => ?_) ?_ (fun j hh => by cases hh) (hs.qv fun t => ?_) rfl (by rw [hcl, h1sz]; rfl) (fun y hy => ?_) h6 (fun j hj => ?_) (fun w' j y u hx hoth p1 p2 p3 p4 => ?_) (fun j y u p1 p2 p3 p4 p5 => ?_)
   ·by_cases ht : t = s'
    ·subst ht; rw [ej, hes]; exact .own ..
    ·rw [ia _ _ ht]; exact .refl _
   ·rintro ⟨z', l', hx⟩
    rw [ia _ _ hsd, ej] at hx; cases hx
   ·by_cases ht : t = s'
    ·subst ht; rw [ej, hes]; exact .own ..
    ·rw [ia _ _ ht]; exact .refl _
   ·rw [hcl] at hy
    simp at hy; subst hy; exact hone
   ·rw [sn, if_neg (fun hh => hj ⟨by omega, by omega⟩)]; exact ⟨rfl, rfl⟩
   ·obtain rfl : j = off := by omega
    rw [sn, if_pos rfl] at p3
    cases p3
    rw [hcl] at p4
    simp at p4; subst p4
    have h2' := im.reh (h' := .cell d j) hown
    refine ⟨hown.1.ext hx, h2'.2.imp id ?_⟩
    rintro ⟨b', cap, vs', ty', k1, k2, k3, k4, k5, k6, k7⟩
    have hbb : b' ≠ b := fun hh => by subst hh; rw [show reh B c (.slot s') (.cell d j) b' = .box d by simp [reh, h4]] at k7; cases k7
    exact ⟨b', cap, vs', ty', k1, k2, (hoth b' hbb).trans k3, k4, k5, k6, k7⟩
   ·obtain rfl : j = off := by omega
    rw [sn, if_pos rfl] at p3; cases p3
  ·obtain ⟨el, s1, bb, z1, te, htt, hte, g⟩ := uf g
   cases g
   have h1sz : ti.sz = 1 := by rw [hti] at htt; cases htt; exact (hT t _ hti).kind.2
   have hq : Rep w c (a.eval x) .nil := hq
   generalize hu : a.eval x = u at *
   cases hq
   refine fin e (.ret 0) (.ret 0) cs ((off, .own te.sz []) :: ux m off) (fun t _ => .refl _) (fun hh => hh) (fun j hh => by cases hh) hs rfl (by rw [h1sz]; rfl) (fun y hy => ?_) h6 (fun j hj => ?_) (fun w' j y u hx hoth p1 p2 p3 p4 => ?_) (fun j y u p1 p2 p3 p4 p5 => ?_)
   ·simp [Value.cells] at hy; subst hy; rfl
   ·rw [sn, if_neg (fun hh => hj ⟨by omega, by omega⟩)]; exact ⟨rfl, rfl⟩
   ·obtain rfl : j = off := by omega
    rw [sn, if_pos rfl] at p3
    cases p3
    simp [Value.cells] at p4; subst p4
    exact ⟨.nil _, .inl ⟨rfl, rfl⟩⟩
   ·obtain rfl : j = off := by omega
    rw [sn, if_pos rfl] at p3; cases p3
  ·obtain ⟨v', hc, g⟩ := ml g
   obtain ⟨cl, hcl, g⟩ := ug g
   have hr := wo hT hti hc (hq.cst hc) hcl
   have hone : ∀ y ∈ (a.eval x).cells.toList, y.oneCell' = true := fun y hy => by
    obtain ⟨k, hk, rfl⟩ := List.getElem_of_mem hy
    have hk' : k < (a.eval x).cells.size := by simpa using hk
    have hk2 : k < cl.length := by rw [hr.len, ← hr.size]; exact hk'
    exact ab6 (hr.rep k _ _ (List.getElem?_eq_getElem hk2) (by simp [hk']))
   by_cases hw : (Nat.beq off 0 && Nat.beq ti.sz z) = true
   ·rw [hw] at g
    cases g
    simp only [Bool.and_eq_true] at hw
    obtain rfl := Nat.eq_of_beq_eq_true hw.1
    have hz := Nat.eq_of_beq_eq_true hw.2
    refine fin e (.ret 0) (.ret 0) cl [] (fun t _ => .refl _) (fun hh => hh) (fun j hh => by cases hh) hs rfl hr.size hone (by rw [hr.len, hz]) (fun j hj => ?_) (fun w' j y u hx hoth p1 p2 p3 p4 => by simp [ovr] at p3) (fun j y u p1 p2 p3 p4 p5 => ?_)
    ·have hj' : z ≤ j := by omega
     refine ⟨?_, ?_⟩
     ·cases ho2 : ovr m j with
      | none => rfl
      | some y => exact absurd (h9 j y ho2) (by omega)
     ·rw [List.getElem?_eq_none (by rw [hr.len]; omega), List.getElem?_eq_none (by rw [h6]; omega)]
    ·exact hr.rep _ y u p4 (by simpa using p5)
   ·rw [Bool.eq_false_iff.2 hw] at g
    obtain ⟨l, hl, hlj, g⟩ := aau g
    cases g
    refine fin e (.ret 0) (.ret 0) cs (afp off l m) (fun t _ => .refl _) (fun hh => hh) (fun j hh => by cases hh) hs rfl hr.size hone h6 (fun j hj => ?_) (fun w' j y u hx hoth p1 p2 p3 p4 => ?_) (fun j y u p1 p2 p3 p4 p5 => ?_)
    ·rw [agq, hl, if_neg hj]; exact ⟨rfl, rfl⟩
    ·rw [agq, hl, if_pos ⟨p1, p2⟩, hlj _ (by omega), Nat.zero_add] at p3
     have := (hr.rep _ y u p3 (by simpa using p4)).ext hx
     cases y <;> first | exact this | cases this
    ·rw [agq, hl, if_pos ⟨p1, p2⟩, List.getElem?_eq_none_iff] at p3
     omega
 unfold ach at g
 split at g
 ·rename_i mm hlit
  cases hb : (Nat.beq off 0 && Nat.beq ti.sz z) with
  | false => rw [hb] at g; exact old g
  | true =>
   rw [hb] at g
   have g : (cast τ t y fun a => cellsOf ti.sz a fun c' => some (Abs.set (uo d e) d (AV.boxv z c' (aj7 mm)))) = some e' := g
   obtain ⟨v', hc, g⟩ := ml g
   obtain ⟨cl, hcl, g⟩ := ug g
   cases g
   have hr := wo hT hti hc (hq.cst hc) hcl
   have hone : ∀ y ∈ (a.eval x).cells.toList, y.oneCell' = true := fun y hy => by
    obtain ⟨k, hk, rfl⟩ := List.getElem_of_mem hy
    have hk' : k < (a.eval x).cells.size := by simpa using hk
    have hk2 : k < cl.length := by rw [hr.len, ← hr.size]; exact hk'
    exact ab6 (hr.rep k _ _ (List.getElem?_eq_getElem hk2) (by simp [hk']))
   simp only [Bool.and_eq_true] at hb
   obtain rfl := Nat.eq_of_beq_eq_true hb.1
   have hz := Nat.eq_of_beq_eq_true hb.2
   obtain ⟨s', rfl, hN⟩ : ∃ s', x = .tmp s' ∧ ∀ j z, (j, z) ∈ mm → ∃ vs : Array Value, bj a s' = .agg vs ∧ vs[j]? = some (.slice none 0 0) := by
    cases x with
    | tmp s' =>
     refine ⟨s', rfl, ?_⟩
     have hs' := hs.slot s'
     have hl : (match e s' with | .lit _ _ m => some m | _ => none) = some mm := hlit
     split at hl
     ·rename_i h1
      cases hl
      rw [h1] at hs'
      exact hs'.2
     ·cases hl
    | const v => cases hlit
    | global g => cases hlit
    | func f => cases hlit
   have hev : a.eval (.tmp s') = bj a s' := rfl
   refine fin e (.ret 0) (.ret 0) cl (aj7 mm) (fun t _ => .refl _) (fun hh => hh) (fun j hh => by cases hh) hs rfl hr.size hone (by rw [hr.len, hz]) (fun j hj => ?_) (fun w' j y u hx hoth p1 p2 p3 p4 => ?_) (fun j y u p1 p2 p3 p4 p5 => ?_)
   ·have hj' : z ≤ j := by omega
    refine ⟨?_, ?_⟩
    ·have e1 : ovr m j = none := by
      cases ho2 : ovr m j with
      | none => rfl
      | some y => exact absurd (h9 j y ho2) (by omega)
     rw [e1]
     cases ho2 : ovr (aj7 mm) j with
     | none => rfl
     | some y =>
      obtain ⟨q, _, hq⟩ := akv ho2
      obtain ⟨vs, k1, k2⟩ := hN j q hq
      have hj2 := (Array.getElem?_eq_some_iff.1 k2).1
      have hsz2 := hr.size
      rw [hev, k1] at hsz2
      have hsz2 : vs.size = ti.sz := hsz2
      omega
    ·rw [List.getElem?_eq_none (by rw [hr.len]; omega), List.getElem?_eq_none (by rw [h6]; omega)]
   ·obtain ⟨q, rfl, hq⟩ := akv p3
    obtain ⟨vs, k1, k2⟩ := hN j q hq
    rw [hev, k1] at p4
    have p4 : vs.toList[j - 0]? = some u := p4
    rw [Nat.sub_zero, Array.getElem?_toList, k2] at p4
    cases p4
    exact ⟨.nil _, .inl ⟨rfl, rfl⟩⟩
   ·exact hr.rep _ y u p4 (by simpa using p5)
 ·exact old g
theorem ah1 (hT : ey P τ) {t s off z : Nat} {x : Operand} {cs : List AV} {m : List (Nat × AV)} {e' : Env} (ho : o.op = .store t (.tmp s) x) (hdst : o.dst = none) (hs : cr τ B w c (bj a) e) (hd : e d = .boxv z cs m)
  (hp : ∀ b, bj a d = .pointer (some ⟨b, 0, none⟩) → bj a s = .pointer (some ⟨b, off, none⟩)) (h : ox τ e t d off z cs m x some = some e') : Steps P o a w (xl τ B a w c e') := fun K Q hK => ag4 hT ho hdst hs hd hp h K Q fun a' w' h => hK a' w' h.1
end
end Go.Proofs.YtmdimhcjogjcgaaGreatDoor.Abs
namespace Go.Proofs.YtmdimhcjogjcgaaGreatDoor.Abs
open Go.RowKit
section
variable {P : Program} {τ : Tab} {B : Nat} {w : World} {c : Cls} {a : Act} {e : Env} {o : Oper} {d : Nat} {v : AV} {call : Nat → List AV → Option AV}
theorem az1 (hT : ey P τ) {t s : Nat} {x : Operand} {e' : Env} (ho : o.op = .store t (.tmp s) x) (hdst : o.dst = none) (hs : cr τ B w c (bj a) e) (h : storeT τ e t s x some (e s) = some e') : Steps P o a w (xl τ B a w c e') := by
 have hso := hs.slot s
 cases hes : e s <;> rw [hes] at h hso <;> first
  | cases h
  | skip
 ·exact ah1 hT ho hdst hs hes (fun b hb => hb) h
 ·rename_i d off
  have h : (match e d with | .boxv z c m => ox τ e t d off z c m x some | _ => none) = some e' := h
  split at h
  ·rename_i z cs m hed
   refine ah1 hT ho hdst hs hed (fun b hb => ?_) h
   obtain ⟨b', h1, h2⟩ := hso z cs m hed
   rw [hb] at h1; cases h1
   exact h2
  ·cases h
def adi (B : Nat) (c : Cls) (s d : Nat) : Cls := fun b => match c b with
 | .own st (.comp s' i) => if B ≤ b ∧ s' = s then .own st (.comp d i) else .own st (.comp s' i)
 | k => k
theorem a3x {s d : Nat} (b i : Nat) : ga (adi B c s d) b i ↔ ga c b i := by
 unfold ga adi
 cases hk : c b with
 | frz => simp
 | box => simp
 | own st g =>
  cases g with
  | comp s' j => by_cases hg : B ≤ b ∧ s' = s <;> simp [hg]
  | slot | cell | ret => exact Iff.rfl
theorem agr (B : Nat) (w : World) (c : Cls) (s d : Nat) : Ext B w c w (adi B c s d) := by
 refine ⟨rfl, rfl, rfl, Nat.le_refl _, fun b hb _ => ⟨rfl, ?_⟩, fun b i v hv hs => ⟨hv, (a3x b i).2 hs⟩⟩
 unfold adi
 cases hk : c b with
 | frz => rfl
 | box => rfl
 | own st g =>
  cases g with
  | comp s' j => simp; omega
  | slot | cell | ret => rfl
theorem a8m {s d : Nat} (hn : ∀ i, ¬ Live e (.comp s i)) : Chg e w c w (adi B c s d) := fun b _ hl => by
 refine ⟨rfl, ?_⟩
 unfold adi
 cases hk : c b with
 | frz => rfl
 | box => rfl
 | own st g =>
  cases g with
  | comp s' j =>
   rw [hk] at hl
   have hg : s' ≠ s := fun hg => hn j (hg ▸ hl)
   simp [hg]
  | slot | cell | ret => rfl
theorem im.adi {s i : Nat} {u : Value} {sz : Nat} {l : List (List AV)} (ho : im B w c (.comp s i) u sz l) : im B w (Abs.adi B c s d) (.comp d i) u sz l := by
 refine ⟨ho.1.ext (agr B w c s d), ho.2.imp id ?_⟩
 rintro ⟨b, cap, vs, ty, h1, h2, h3, h4, h5, h6, h7⟩
 exact ⟨b, cap, vs, ty, h1, h2, h3, h4, h5, h6, by simp [Abs.adi, h7, h2]⟩
theorem lg.frz {h : ld} {u : Value} {x : AV} (hp : lg B w c h u x) : lg B w c h u (Abs.frz x) := by
 cases x <;> first
  | exact hp
  | exact hp.1
  | exact (hp : False).elim
theorem a3y {s d : Nat} {e' : Env} (ho : o.op = .move (.tmp s)) (hdst : o.dst = some d) (hd : d < a.tmps.size) (hs : cr τ B w c (bj a) e) (h : alh τ e o.type s d some (e s) = some e') (hval : ∀ v, Abs.qf (e s) ≠ .undef → aac τ o.type (.tmp s) (Abs.qf (e s)) some = some v → Steps P o a w (xl τ B a w c (pk e (some d) v))) :
  Steps P o a w (xl τ B a w c e') := by
 by_cases ht : ∃ l, e s = .tup l
 ·obtain ⟨l, hes⟩ := ht
  rw [hes] at h
  cases h
  have hso := hs.slot s
  rw [hes] at hso
  obtain ⟨vs, h1, h2, h3⟩ := hso
  have hs1 : cr τ B w c (bj a) (Abs.set e s (.tup (l.map frz))) := hs.again (d := s) (v := .tup (l.map frz)) ⟨vs, h1, by simp [h2], fun i x u hx hu => by
   rw [List.getElem?_map] at hx
   cases hy : l[i]? with
   | none => rw [hy] at hx; cases hx
   | some y => rw [hy] at hx; cases hx; exact (h3 i y u hy hu).frz⟩ rfl rfl
  have hn : ∀ i, ¬ Live (Abs.set e s (.tup (l.map frz))) (.comp s i) := by
   rintro i ⟨l', z, r, hx, hx'⟩
   rw [ej] at hx; cases hx
   rw [List.getElem?_map] at hx'
   cases hy : l[i]? with
   | none => rw [hy] at hx'; cases hx'
   | some y => rw [hy] at hx'; cases y <;> cases hx'
  refine (ij.value (R := fun u' w' => u' = bj a s ∧ w' = w) (u := bj a s) (w' := w) (by simp [execOp, ho, af0]) ⟨rfl, rfl⟩).steps fun u' w' hu => ?_
  obtain ⟨rfl, rfl⟩ := hu
  refine ⟨adi B c s d, agr .., ?_, qw, put_defers⟩
  rw [hdst, ve hd]
  have := (hs1.change (agr B w' c s d) (a8m hn)).pk (d := d) (u := bj a s) (v := .tup l) ⟨vs, h1, h2, fun i x u hx hu => by
   rcases (h3 i x u hx hu).either with ⟨z, l', rfl, hown⟩ | hp
   ·exact hown.adi
   ·have hp := hp.ext (agr B w' c s d)
    cases x <;> first | exact hp.elim | exact hp⟩
  rw [afy rfl] at this
  exact this
 ·have hm : ∃ v, Abs.qf (e s) ≠ .undef ∧ aac τ o.type (.tmp s) (Abs.qf (e s)) some = some v ∧ pk e (some d) v = e' := by
   have h : nz (Abs.qf (e s)) (fun a => aac τ o.type (.tmp s) a fun v => some (pk e (some d) v)) = some e' := by
    cases hes : e s <;> rw [hes] at h ht <;> first
     | (exfalso; exact ht ⟨_, rfl⟩)
     | exact h
   obtain ⟨hne, h⟩ := acu h
   have h : (aac τ o.type (.tmp s) (Abs.qf (e s)) some).bind (fun v => some (pk e (some d) v)) = some e' := by rw [anm]; exact h
   obtain ⟨v, h1, h2⟩ := Option.bind_eq_some_iff.1 h
   cases h2
   exact ⟨v, hne, h1, rfl⟩
  obtain ⟨v, h1, h2, rfl⟩ := hm
  exact hval v h1 h2
theorem auu {α : Type} {k : AV → Option α} {r : α} (h : val τ call e o k = some r) : ∃ v, val τ call e o some = some v ∧ k v = some r := by
 rw [awr] at h
 exact Option.bind_eq_some_iff.1 h
theorem aqi {res : List Nat} {α : Type} {k : Env → Option α} {r : α} (h : step τ call res e o k = some r) : ∃ e', step τ call res e o some = some e' ∧ k e' = some r := by
 rw [ar7] at h
 exact Option.bind_eq_some_iff.1 h
theorem auv (hT : ey P τ) (hcall : ∀ f l r, call f l = some r → PC P τ f l r) {res : List Nat} {e' : Env} (hs : cr τ B w c (bj a) e) (hd : ∀ d, o.dst = some d → d < a.tmps.size) (h : step τ call res e o some = some e') :
  Steps P o a w (xl τ B a w c e') := by
 unfold step at h
 split at h
 ·rename_i x d h1 h2
  obtain ⟨b, hb, g⟩ := dm h
  exact a6t h1 hs hb (hd d h2) h2 g
 ·rename_i s d h1 h2
  refine a3y h1 h2 (hd d h2) hs h fun v hne hv => ?_
  have hval : val τ call e o some = some v := by
   unfold val; simp only [h1, ff]
   cases hes : Abs.qf (e s) <;> rw [hes] at hv hne <;> first | exact absurd rfl hne | exact hv
  have := ast (anx (d := o.dst.getD 0) hT hcall hs hval) hs hd
  rw [h2] at this
  exact this
 ·rename_i s i h1
  exact a1j (x := .tmp s) h1 hs hd h
 ·rename_i t s x h1 h2
  exact az1 hT h1 h2 hs h
 ·rename_i x y t0 t1 h1
  exact azy hT h1 hs hd h
 ·cases h
 ·obtain ⟨v, h1, h2⟩ := auu h
  cases h2
  exact ast (anx hT hcall hs h1) hs hd
end
end Go.Proofs.YtmdimhcjogjcgaaGreatDoor.Abs
