/- Stores to boxes; one operation of a region. -/
import Derived.Test.YtmdimhcjogjcgaaGreatDoorGat
set_option linter.all false
noncomputable section
namespace Go.Proofs.YtmdimhcjogjcgaaGreatDoor.Abs
open Go.RowKit
section
variable {P : Program} {τ : Tab} {B : Nat} {w : World} {c : Cls} {a : Act} {e : Env} {o : Oper} {d : Nat} {v : AV} {call : Nat → List AV → Option AV}
theorem run_store {t sz b off : Nat} {vs : Array Value} {ty : TypeId} {u : Value} (hsz : (sizeOf t).run P w = .ok sz w) (hb : w.heap[b]? = some (.cells vs ty (0, 0))) (hu : u.cells.size = sz) (hfit : off + sz ≤ vs.size) (h1 : ∀ y ∈ u.cells.toList, y.oneCell' = true) :
  (Instr.storeAt t (.pointer (some ⟨b, off, none⟩)) u).run P w = .ok () (w.setRow b (vs.toList.take off ++ u.cells.toList ++ vs.toList.drop (off + sz)).toArray) := by
 have hst := run_storeCells_at P b off ty u.cells.toList 0 vs w hb (by simp [hu]; exact hfit) h1
 simp only [Nat.add_zero, Array.length_toList, hu] at hst
 simp [Instr.storeAt, Instr.sureAddr, storeVar, hsz, hu, hst]
structure asn (B : Nat) (w : World) (c : Cls) (w' : World) (c' : Cls) (d b off sz : Nat) (vs nc : Array Value) (us : List Value) (ty : TypeId) : Prop where
 ext : Ext B w c w' c'
 heap : w'.heap[b]? = some (.cells nc ty (0, 0))
 cls : c' b = .box d
 size : nc.size = vs.size
 new : ∀ j, off ≤ j → j < off + sz → nc[j]? = us[j - off]?
 old : ∀ j, ¬ (off ≤ j ∧ j < off + sz) → nc[j]? = vs[j]?
theorem apv {e0 : Env} {H H' : gp} {b off sz : Nat} {vs : Array Value} {ty : TypeId} {us : List Value} (h0 : ax τ B w c (aj a) e0) (hn : ¬ Live e0 H) (hd : ∀ z cs m, e0 d ≠ .boxv z cs m) (hB : B ≤ b)
  (hb : w.heap[b]? = some (.cells vs ty (0, 0))) (hc : c b = .box d) (hus : us.length = sz) (hfit : off + sz ≤ vs.size) :
  ∃ w' nc, w' = w.setRow b (vs.toList.take off ++ us ++ vs.toList.drop (off + sz)).toArray ∧ ax τ B w' (reh B c H H') (aj a) e0 ∧ asn B w c w' (reh B c H H') d b off sz vs nc us ty := by
 have hc' : reh B c H H' b = .box d := by simp [reh, hc]
 have htl : (vs.toList.take off).length = off := by simp; omega
 have hx : Ext B w c (w.setRow b (vs.toList.take off ++ us ++ vs.toList.drop (off + sz)).toArray) (reh B c H H') := by
  refine ⟨rfl, rfl, rfl, by simp [World.setRow], fun q hq hq' => ⟨setRow_other w b q _ (by omega), ?_⟩, fun q j y hy hst => ?_⟩
  ·exact ((wk B w c H H').old q hq hq').2
  ·have hqb : q ≠ b := fun hh => by subst hh; unfold dw at hst; rw [hc] at hst; exact hst
   exact ⟨by rw [cell_setRow_other w b _ _ hqb]; exact hy, (akn q j).2 hst⟩
 refine ⟨_, (vs.toList.take off ++ us ++ vs.toList.drop (off + sz)).toArray, rfl, h0.change hx fun q hq hl => ?_, hx, setRow_heap w b vs _ ty (0, 0) hb, hc', ?_, fun j h1 h2 => ?_, fun j hj => ?_⟩
 ·have hqb : q ≠ b := fun hh => by subst hh; rw [hc] at hl; obtain ⟨z, cs, m, hl⟩ := hl; exact hd z cs m hl
  exact ⟨setRow_other w b q _ hqb, (agu (w := w) (B := B) (h' := H') hn q hq hl).2⟩
 ·simp only [List.size_toArray, List.length_append, htl, List.length_drop, Array.length_toList, hus]; omega
 ·simp only [List.getElem?_toArray]
  rw [List.append_assoc, List.getElem?_append_right (by rw [htl]; exact h1), htl, List.getElem?_append_left (by omega)]
 ·simp only [List.getElem?_toArray]
  by_cases h1 : j < off
  ·rw [List.append_assoc, List.getElem?_append_left (by rw [htl]; exact h1), List.getElem?_take, if_pos h1]; simp
  ·rw [List.getElem?_append_right (by rw [List.length_append, htl, hus]; omega), List.length_append, htl, hus, List.getElem?_drop]
   rw [show off + sz + (j - (off + sz)) = j by omega]; simp
theorem apw {w' : World} {T : Nat → Value} {H H' : gp} {b off sz z : Nat} {vs nc : Array Value} {ty : TypeId} {us : List Value} {cs cs' : List AV} {m m' : List (Nat × AV)} (hT : T d = .pointer (some ⟨b, 0, none⟩)) (hB : B ≤ b)
  (hz : vs.size = z) (hcs' : cs'.length = z) (h7 : ∀ (j : Nat) (x : AV) (u : Value), ovr m j = none → cs[j]? = some x → vs[j]? = some u → Rep w c u x) (h8 : ∀ (j : Nat) (x : AV) (u : Value), ovr m j = some x → vs[j]? = some u → ov B w c d j u x)
  (h9 : ∀ (j : Nat) (x : AV), ovr m j = some x → j < z) (hst : asn B w c w' (reh B c H H') d b off sz vs nc us ty) (hfit : off + sz ≤ z)
  (hother : ∀ q, q ≠ b → w'.heap[q]? = w.heap[q]?) (hcb : c b = .box d) (hH : ∀ j, H ≠ .cell d j)
  (hold : ∀ j, ¬ (off ≤ j ∧ j < off + sz) → ovr m' j = ovr m j ∧ cs'[j]? = cs[j]?)
  (hnew1 : ∀ (j : Nat) (x : AV) (u : Value), off ≤ j → j < off + sz → ovr m' j = some x → us[j - off]? = some u → ov B w' (reh B c H H') d j u x)
  (hnew2 : ∀ (j : Nat) (x : AV) (u : Value), off ≤ j → j < off + sz → ovr m' j = none → cs'[j]? = some x → us[j - off]? = some u → Rep w' (reh B c H H') u x) :
  qp B w' (reh B c H H') d (T d) z cs' m' := by
 refine ⟨b, nc, ty, hT, hB, hst.heap, hst.cls, by rw [hst.size, hz], hcs', fun j x u p1 p2 p3 => ?_, fun j x u p1 p2 => ?_, fun j x p1 => ?_⟩
 ·by_cases hj : off ≤ j ∧ j < off + sz
  ·rw [hst.new j hj.1 hj.2] at p3
   exact hnew2 j x u hj.1 hj.2 p1 p2 p3
  ·rw [hst.old j hj] at p3
   obtain ⟨q1, q2⟩ := hold j hj
   rw [q1] at p1; rw [q2] at p2
   exact (h7 j x u p1 p2 p3).ext hst.ext
 ·by_cases hj : off ≤ j ∧ j < off + sz
  ·rw [hst.new j hj.1 hj.2] at p2
   exact hnew1 j x u hj.1 hj.2 p1 p2
  ·rw [hst.old j hj] at p2
   obtain ⟨q1, q2⟩ := hold j hj
   rw [q1] at p1
   have := h8 j x u p1 p2
   cases x <;> first
    | exact Rep.ext hst.ext this
    | skip
   refine eh.jj hst.ext (fun q st hq => ?_) this
   have hqb : q ≠ b := fun hh => by subst hh; rw [hcb] at hq; cases hq
   refine ⟨hother q hqb, ?_⟩
   simp only [reh, hq]
   rw [if_neg (fun hh => hH j hh.2.symm)]
 ·by_cases hj : off ≤ j ∧ j < off + sz
  ·omega
  ·rw [(hold j hj).1] at p1; exact h9 j x p1
theorem aec : ∀ {mm : List (Nat × Nat)} {j : Nat} {y : AV}, ovr (adz mm) j = some y → ∃ q, y = .own q [] ∧ (j, q) ∈ mm
 | [], _, _, h => by cases h
 | (i, z) :: r, j, y, h => by
  have h : aa (Nat.beq i j) (some (.own z [])) (ovr (adz r) j) = some y := h
  cases hb : Nat.beq i j with
  | true =>
   rw [hb] at h
   obtain rfl := Nat.eq_of_beq_eq_true hb
   cases h
   exact ⟨z, rfl, List.mem_cons_self ..⟩
  | false =>
   rw [hb] at h
   obtain ⟨q, h1, h2⟩ := aec (mm := r) h
   exact ⟨q, h1, List.mem_cons_of_mem _ h2⟩
def aln (τ : Tab) (B : Nat) (a : Act) (w : World) (c : Cls) (e' : Env) : Act → World → Prop := fun a' w' => qk τ B a w c e' a' w' ∧ a' = a
theorem abe (hT : db P τ) {t s off z : Nat} {x : Operand} {cs : List AV} {m : List (Nat × AV)} {e' : Env} (ho : o.op = .store t (.tmp s) x) (hdst : o.dst = none) (hs : ax τ B w c (aj a) e) (hd : e d = .boxv z cs m)
  (hp : ∀ b, aj a d = .pointer (some ⟨b, 0, none⟩) → aj a s = .pointer (some ⟨b, off, none⟩)) (h : jn τ e t d off z cs m x some = some e') : Steps P o a w (aln τ B a w c e') := by
 unfold jn at h
 obtain ⟨y, hy, g⟩ := ck h
 obtain ⟨q, hq⟩ := hy.slot hs
 obtain ⟨ti, hti, g⟩ := ja g
 obtain ⟨hle, g⟩ := bn g
 have hle : off + ti.sz ≤ z := by simpa using hle
 have hbox := hs.slot d
 rw [hd] at hbox
 obtain ⟨b, vs, ty, h1, h2, h3, h4, h5, h6, h7, h8, h9⟩ := hbox
 have hps : a.eval (.tmp s) = .pointer (some ⟨b, off, none⟩) := hp b h1
 have fin : ∀ (e0 : Env) (H H' : gp) (cs' : List AV) (m' : List (Nat × AV)), (∀ s, s ≠ d → ff (e s) (e0 s)) → ¬ Live (Abs.set e0 d .undef) H → (∀ j, H ≠ .cell d j) → ax τ B w c (aj a) e0 → e' = Abs.set (ot d e0) d (.boxv z cs' m') →
   (a.eval x).cells.size = ti.sz → (∀ y ∈ (a.eval x).cells.toList, y.oneCell' = true) → cs'.length = z →
   (∀ j, ¬ (off ≤ j ∧ j < off + ti.sz) → ovr m' j = ovr m j ∧ cs'[j]? = cs[j]?) →
   (∀ (w' : World) (j : Nat) (y : AV) (u : Value), Ext B w c w' (reh B c H H') → (∀ q, q ≠ b → w'.heap[q]? = w.heap[q]?) → off ≤ j → j < off + ti.sz → ovr m' j = some y → (a.eval x).cells.toList[j - off]? = some u → ov B w' (reh B c H H') d j u y) →
   (∀ (j : Nat) (y : AV) (u : Value), off ≤ j → j < off + ti.sz → ovr m' j = none → cs'[j]? = some y → (a.eval x).cells.toList[j - off]? = some u → Rep w c u y) →
   Steps P o a w (aln τ B a w c e') := by
  intro e0 H H' cs' m' hw0 hn hH hs0 he' hsz hone hcs' hold hnew1 hnew2
  have hsU : ax τ B w c (aj a) (Abs.set e0 d .undef) := hs0.ku fun s => by
   by_cases hsd : s = d
   ·subst hsd; rw [cy]; exact .undef _
   ·rw [ea _ _ hsd]; exact .refl _
  obtain ⟨w', nc, hw', hs', hst⟩ := apv (H := H) (H' := H') (us := (a.eval x).cells.toList) (sz := ti.sz) hsU hn (fun z cs m hh => by rw [cy] at hh; cases hh) h2 h3 h4 (by simp [hsz]) (by rw [h5]; exact hle)
  have hrun : (execOp a.eval o).run P w = .ok .skip w' := by
   simp only [execOp, ho, Sem.run_bind, hps, run_store (lq hT hti) h3 hsz (by rw [h5]; exact hle) hone, Result.andThen_ok, Sem.run_pure, hw']
  have hoth : ∀ q, q ≠ b → w'.heap[q]? = w.heap[q]? := fun q hq => by rw [hw']; exact setRow_other w b q _ hq
  have hb := apw (T := aj a) (m' := m') (cs' := cs') h1 h2 h5 hcs' h7 h8 h9 hst hle hoth h4 hH hold (fun j y u p1 p2 p3 p4 => hnew1 w' j y u hst.ext hoth p1 p2 p3 p4) (fun j y u p1 p2 p3 p4 p5 => (hnew2 j y u p1 p2 p3 p4 p5).ext hst.ext)
  refine (ej.skip (R := fun _ w2 => w2 = w') hrun rfl).steps fun u' w2 hu => ?_
  subst hu
  refine ⟨⟨_, hst.ext, ?_, kv, put_defers⟩, by rw [hdst]; rfl⟩
  rw [hdst]
  refine hs'.axb hs hd (e' := e') (by rw [he', cy]) hb (fun s hsd => by rw [ea _ _ hsd]; exact hw0 s hsd) (fun s hsd => ?_) (fun s hsd => ?_)
  ·rw [he', ea _ _ hsd, ea _ _ hsd]; exact alk ..
  ·rw [he', ea _ _ hsd]; exact asm _ _
 have old : aaa τ e t d off z ti.sz cs m x y some = some e' → Steps P o a w (aln τ B a w c e') := by
  clear g
  intro g
  unfold aaa at g
  split at g
  ·rename_i s' zz l _ _
   obtain ⟨el, s1, bb, z1, te, htt, hte, g⟩ := ny g
   obtain ⟨hzz, g⟩ := bn g
   cases g
   have h1sz : ti.sz = 1 := by rw [hti] at htt; cases htt; exact (hT t _ hti).kind.2
   have hes : e s' = .own zz l := by
    obtain ⟨_, ⟨t, k1, k2⟩ | ⟨k, k1, _⟩ | ⟨f, k1, _⟩⟩ := hy <;> cases k1
    exact abw k2
   have hown := hs.slot s'
   rw [hes] at hown
   have hown : eh B w c (.slot s') (a.eval (.tmp s')) zz l := hown
   have hone := wj hown.1
   have hcl : (a.eval (.tmp s')).cells = #[a.eval (.tmp s')] := by generalize a.eval (.tmp s') = u at *; cases u <;> first | rfl | cases hone
   have hsd : s' ≠ d := fun hh => by rw [hh, hd] at hes; cases hes
   refine fin (Abs.set e s' (.sl zz l)) (.slot s') (.cell d off) cs ((off, .own zz l) :: ox m off) (fun t _ => ?_) ?_ (fun j hh => by cases hh) (hs.ku fun t => ?_) rfl (by rw [hcl, h1sz]; rfl) (fun y hy => ?_) h6 (fun j hj => ?_) (fun w' j y u hx hoth p1 p2 p3 p4 => ?_) (fun j y u p1 p2 p3 p4 p5 => ?_)
   ·by_cases ht : t = s'
    ·subst ht; rw [cy, hes]; exact .own ..
    ·rw [ea _ _ ht]; exact .refl _
   ·rintro ⟨z', l', hx⟩
    rw [ea _ _ hsd, cy] at hx; cases hx
   ·by_cases ht : t = s'
    ·subst ht; rw [cy, hes]; exact .own ..
    ·rw [ea _ _ ht]; exact .refl _
   ·rw [hcl] at hy
    simp at hy; subst hy; exact hone
   ·rw [mc, if_neg (fun hh => hj ⟨by omega, by omega⟩)]; exact ⟨rfl, rfl⟩
   ·obtain rfl : j = off := by omega
    rw [mc, if_pos rfl] at p3
    cases p3
    rw [hcl] at p4
    simp at p4; subst p4
    have h2' := eh.reh (h' := .cell d j) hown
    refine ⟨hown.1.ext hx, h2'.2.imp id ?_⟩
    rintro ⟨b', cap, vs', ty', k1, k2, k3, k4, k5, k6, k7⟩
    have hbb : b' ≠ b := fun hh => by subst hh; rw [show reh B c (.slot s') (.cell d j) b' = .box d by simp [reh, h4]] at k7; cases k7
    exact ⟨b', cap, vs', ty', k1, k2, (hoth b' hbb).trans k3, k4, k5, k6, k7⟩
   ·obtain rfl : j = off := by omega
    rw [mc, if_pos rfl] at p3; cases p3
  ·obtain ⟨el, s1, bb, z1, te, htt, hte, g⟩ := ny g
   cases g
   have h1sz : ti.sz = 1 := by rw [hti] at htt; cases htt; exact (hT t _ hti).kind.2
   have hq : Rep w c (a.eval x) .nil := hq
   generalize hu : a.eval x = u at *
   cases hq
   refine fin e (.ret 0) (.ret 0) cs ((off, .own te.sz []) :: ox m off) (fun t _ => .refl _) (fun hh => hh) (fun j hh => by cases hh) hs rfl (by rw [h1sz]; rfl) (fun y hy => ?_) h6 (fun j hj => ?_) (fun w' j y u hx hoth p1 p2 p3 p4 => ?_) (fun j y u p1 p2 p3 p4 p5 => ?_)
   ·simp [Value.cells] at hy; subst hy; rfl
   ·rw [mc, if_neg (fun hh => hj ⟨by omega, by omega⟩)]; exact ⟨rfl, rfl⟩
   ·obtain rfl : j = off := by omega
    rw [mc, if_pos rfl] at p3
    cases p3
    simp [Value.cells] at p4; subst p4
    exact ⟨.nil _, .inl ⟨rfl, rfl⟩⟩
   ·obtain rfl : j = off := by omega
    rw [mc, if_pos rfl] at p3; cases p3
  ·obtain ⟨v', hc, g⟩ := iq g
   obtain ⟨cl, hcl, g⟩ := oa g
   have hr := pw hT hti hc (hq.cst hc) hcl
   have hone : ∀ y ∈ (a.eval x).cells.toList, y.oneCell' = true := fun y hy => by
    obtain ⟨k, hk, rfl⟩ := List.getElem_of_mem hy
    have hk' : k < (a.eval x).cells.size := by simpa using hk
    have hk2 : k < cl.length := by rw [hr.len, ← hr.size]; exact hk'
    exact wj (hr.rep k _ _ (List.getElem?_eq_getElem hk2) (by simp [hk']))
   by_cases hw : (Nat.beq off 0 && Nat.beq ti.sz z) = true
   ·rw [hw] at g
    cases g
    simp only [Bool.and_eq_true] at hw
    obtain rfl := Nat.eq_of_beq_eq_true hw.1
    have hz := Nat.eq_of_beq_eq_true hw.2
    refine fin e (.ret 0) (.ret 0) cl [] (fun t _ => .refl _) (fun hh => hh) (fun j hh => by cases hh) hs rfl hr.size hone (by rw [hr.len, hz]) (fun j hj => ?_) (fun w' j y u hx hoth p1 p2 p3 p4 => by simp [ovr] at p3) (fun j y u p1 p2 p3 p4 p5 => ?_)
    ·have hj' : z ≤ j := by omega
     refine ⟨?_, ?_⟩
     ·cases ho2 : ovr m j with
      | none => rfl
      | some y => exact absurd (h9 j y ho2) (by omega)
     ·rw [List.getElem?_eq_none (by rw [hr.len]; omega), List.getElem?_eq_none (by rw [h6]; omega)]
    ·exact hr.rep _ y u p4 (by simpa using p5)
   ·rw [Bool.eq_false_iff.2 hw] at g
    obtain ⟨l, hl, hlj, g⟩ := uv g
    cases g
    refine fin e (.ret 0) (.ret 0) cs (zw off l m) (fun t _ => .refl _) (fun hh => hh) (fun j hh => by cases hh) hs rfl hr.size hone h6 (fun j hj => ?_) (fun w' j y u hx hoth p1 p2 p3 p4 => ?_) (fun j y u p1 p2 p3 p4 p5 => ?_)
    ·rw [aaz, hl, if_neg hj]; exact ⟨rfl, rfl⟩
    ·rw [aaz, hl, if_pos ⟨p1, p2⟩, hlj _ (by omega), Nat.zero_add] at p3
     have := (hr.rep _ y u p3 (by simpa using p4)).ext hx
     cases y <;> first | exact this | cases this
    ·rw [aaz, hl, if_pos ⟨p1, p2⟩, List.getElem?_eq_none_iff] at p3
     omega
 unfold xa at g
 split at g
 ·rename_i mm hlit
  cases hb : (Nat.beq off 0 && Nat.beq ti.sz z) with
  | false => rw [hb] at g; exact old g
  | true =>
   rw [hb] at g
   have g : (cast τ t y fun a => cellsOf ti.sz a fun c' => some (Abs.set (ot d e) d (AV.boxv z c' (adz mm)))) = some e' := g
   obtain ⟨v', hc, g⟩ := iq g
   obtain ⟨cl, hcl, g⟩ := oa g
   cases g
   have hr := pw hT hti hc (hq.cst hc) hcl
   have hone : ∀ y ∈ (a.eval x).cells.toList, y.oneCell' = true := fun y hy => by
    obtain ⟨k, hk, rfl⟩ := List.getElem_of_mem hy
    have hk' : k < (a.eval x).cells.size := by simpa using hk
    have hk2 : k < cl.length := by rw [hr.len, ← hr.size]; exact hk'
    exact wj (hr.rep k _ _ (List.getElem?_eq_getElem hk2) (by simp [hk']))
   simp only [Bool.and_eq_true] at hb
   obtain rfl := Nat.eq_of_beq_eq_true hb.1
   have hz := Nat.eq_of_beq_eq_true hb.2
   obtain ⟨s', rfl, hN⟩ : ∃ s', x = .tmp s' ∧ ∀ j z, (j, z) ∈ mm → ∃ vs : Array Value, aj a s' = .agg vs ∧ vs[j]? = some (.slice none 0 0) := by
    cases x with
    | tmp s' =>
     refine ⟨s', rfl, ?_⟩
     have hs' := hs.slot s'
     have hl : (match e s' with | .lit _ _ m => some m | _ => none) = some mm := hlit
     split at hl
     ·rename_i h1
      cases hl
      rw [h1] at hs'
      exact hs'.2
     ·cases hl
    | const v => cases hlit
    | global g => cases hlit
    | func f => cases hlit
   have hev : a.eval (.tmp s') = aj a s' := rfl
   refine fin e (.ret 0) (.ret 0) cl (adz mm) (fun t _ => .refl _) (fun hh => hh) (fun j hh => by cases hh) hs rfl hr.size hone (by rw [hr.len, hz]) (fun j hj => ?_) (fun w' j y u hx hoth p1 p2 p3 p4 => ?_) (fun j y u p1 p2 p3 p4 p5 => ?_)
   ·have hj' : z ≤ j := by omega
    refine ⟨?_, ?_⟩
    ·have e1 : ovr m j = none := by
      cases ho2 : ovr m j with
      | none => rfl
      | some y => exact absurd (h9 j y ho2) (by omega)
     rw [e1]
     cases ho2 : ovr (adz mm) j with
     | none => rfl
     | some y =>
      obtain ⟨q, _, hq⟩ := aec ho2
      obtain ⟨vs, k1, k2⟩ := hN j q hq
      have hj2 := (Array.getElem?_eq_some_iff.1 k2).1
      have hsz2 := hr.size
      rw [hev, k1] at hsz2
      have hsz2 : vs.size = ti.sz := hsz2
      omega
    ·rw [List.getElem?_eq_none (by rw [hr.len]; omega), List.getElem?_eq_none (by rw [h6]; omega)]
   ·obtain ⟨q, rfl, hq⟩ := aec p3
    obtain ⟨vs, k1, k2⟩ := hN j q hq
    rw [hev, k1] at p4
    have p4 : vs.toList[j - 0]? = some u := p4
    rw [Nat.sub_zero, Array.getElem?_toList, k2] at p4
    cases p4
    exact ⟨.nil _, .inl ⟨rfl, rfl⟩⟩
   ·exact hr.rep _ y u p4 (by simpa using p5)
 ·exact old g
theorem ab5 (hT : db P τ) {t s off z : Nat} {x : Operand} {cs : List AV} {m : List (Nat × AV)} {e' : Env} (ho : o.op = .store t (.tmp s) x) (hdst : o.dst = none) (hs : ax τ B w c (aj a) e) (hd : e d = .boxv z cs m)
  (hp : ∀ b, aj a d = .pointer (some ⟨b, 0, none⟩) → aj a s = .pointer (some ⟨b, off, none⟩)) (h : jn τ e t d off z cs m x some = some e') : Steps P o a w (qk τ B a w c e') := fun K Q hK => abe hT ho hdst hs hd hp h K Q fun a' w' h => hK a' w' h.1
end
end Go.Proofs.YtmdimhcjogjcgaaGreatDoor.Abs
namespace Go.Proofs.YtmdimhcjogjcgaaGreatDoor.Abs
open Go.RowKit
section
variable {P : Program} {τ : Tab} {B : Nat} {w : World} {c : Cls} {a : Act} {e : Env} {o : Oper} {d : Nat} {v : AV} {call : Nat → List AV → Option AV}
theorem apx (hT : db P τ) {t s : Nat} {x : Operand} {e' : Env} (ho : o.op = .store t (.tmp s) x) (hdst : o.dst = none) (hs : ax τ B w c (aj a) e) (h : storeT τ e t s x some (e s) = some e') : Steps P o a w (qk τ B a w c e') := by
 have hso := hs.slot s
 cases hes : e s <;> rw [hes] at h hso <;> first
  | cases h
  | skip
 ·exact ab5 hT ho hdst hs hes (fun b hb => hb) h
 ·rename_i d off
  have h : (match e d with | .boxv z c m => jn τ e t d off z c m x some | _ => none) = some e' := h
  split at h
  ·rename_i z cs m hed
   refine ab5 hT ho hdst hs hed (fun b hb => ?_) h
   obtain ⟨b', h1, h2⟩ := hso z cs m hed
   rw [hb] at h1; cases h1
   exact h2
  ·cases h
def xu (B : Nat) (c : Cls) (s d : Nat) : Cls := fun b => match c b with
 | .own st (.comp s' i) => if B ≤ b ∧ s' = s then .own st (.comp d i) else .own st (.comp s' i)
 | k => k
theorem aso {s d : Nat} (b i : Nat) : dw (xu B c s d) b i ↔ dw c b i := by
 unfold dw xu
 cases hk : c b with
 | frz => simp
 | box => simp
 | own st g =>
  cases g with
  | comp s' j => by_cases hg : B ≤ b ∧ s' = s <;> simp [hg]
  | slot | cell | ret => exact Iff.rfl
theorem aa0 (B : Nat) (w : World) (c : Cls) (s d : Nat) : Ext B w c w (xu B c s d) := by
 refine ⟨rfl, rfl, rfl, Nat.le_refl _, fun b hb _ => ⟨rfl, ?_⟩, fun b i v hv hs => ⟨hv, (aso b i).2 hs⟩⟩
 unfold xu
 cases hk : c b with
 | frz => rfl
 | box => rfl
 | own st g =>
  cases g with
  | comp s' j => simp; omega
  | slot | cell | ret => rfl
theorem avx {s d : Nat} (hn : ∀ i, ¬ Live e (.comp s i)) : Chg e w c w (xu B c s d) := fun b _ hl => by
 refine ⟨rfl, ?_⟩
 unfold xu
 cases hk : c b with
 | frz => rfl
 | box => rfl
 | own st g =>
  cases g with
  | comp s' j =>
   rw [hk] at hl
   have hg : s' ≠ s := fun hg => hn j (hg ▸ hl)
   simp [hg]
  | slot | cell | ret => rfl
theorem eh.xu {s i : Nat} {u : Value} {sz : Nat} {l : List (List AV)} (ho : eh B w c (.comp s i) u sz l) : eh B w (Abs.xu B c s d) (.comp d i) u sz l := by
 refine ⟨ho.1.ext (aa0 B w c s d), ho.2.imp id ?_⟩
 rintro ⟨b, cap, vs, ty, h1, h2, h3, h4, h5, h6, h7⟩
 exact ⟨b, cap, vs, ty, h1, h2, h3, h4, h5, h6, by simp [Abs.xu, h7, h2]⟩
theorem gq.frz {h : gp} {u : Value} {x : AV} (hp : gq B w c h u x) : gq B w c h u (Abs.frz x) := by
 cases x <;> first
  | exact hp
  | exact hp.1
  | exact (hp : False).elim
theorem asp {s d : Nat} {e' : Env} (ho : o.op = .move (.tmp s)) (hdst : o.dst = some d) (hd : d < a.tmps.size) (hs : ax τ B w c (aj a) e) (h : aev τ e o.type s d some (e s) = some e') (hval : ∀ v, Abs.kj (e s) ≠ .undef → tx τ o.type (.tmp s) (Abs.kj (e s)) some = some v → Steps P o a w (qk τ B a w c (j5 e (some d) v))) :
  Steps P o a w (qk τ B a w c e') := by
 by_cases ht : ∃ l, e s = .tup l
 ·obtain ⟨l, hes⟩ := ht
  rw [hes] at h
  cases h
  have hso := hs.slot s
  rw [hes] at hso
  obtain ⟨vs, h1, h2, h3⟩ := hso
  have hs1 : ax τ B w c (aj a) (Abs.set e s (.tup (l.map frz))) := hs.again (d := s) (v := .tup (l.map frz)) ⟨vs, h1, by simp [h2], fun i x u hx hu => by
   rw [List.getElem?_map] at hx
   cases hy : l[i]? with
   | none => rw [hy] at hx; cases hx
   | some y => rw [hy] at hx; cases hx; exact (h3 i y u hy hu).frz⟩ rfl rfl
  have hn : ∀ i, ¬ Live (Abs.set e s (.tup (l.map frz))) (.comp s i) := by
   rintro i ⟨l', z, r, hx, hx'⟩
   rw [cy] at hx; cases hx
   rw [List.getElem?_map] at hx'
   cases hy : l[i]? with
   | none => rw [hy] at hx'; cases hx'
   | some y => rw [hy] at hx'; cases y <;> cases hx'
  refine (ej.value (R := fun u' w' => u' = aj a s ∧ w' = w) (u := aj a s) (w' := w) (by simp [execOp, ho, aah]) ⟨rfl, rfl⟩).steps fun u' w' hu => ?_
  obtain ⟨rfl, rfl⟩ := hu
  refine ⟨xu B c s d, aa0 .., ?_, kv, put_defers⟩
  rw [hdst, o4 hd]
  have := (hs1.change (aa0 B w' c s d) (avx hn)).j5 (d := d) (u := aj a s) (v := .tup l) ⟨vs, h1, h2, fun i x u hx hu => by
   rcases (h3 i x u hx hu).either with ⟨z, l', rfl, hown⟩ | hp
   ·exact hown.xu
   ·have hp := hp.ext (aa0 B w' c s d)
    cases x <;> first | exact hp.elim | exact hp⟩
  rw [aaf rfl] at this
  exact this
 ·have hm : ∃ v, Abs.kj (e s) ≠ .undef ∧ tx τ o.type (.tmp s) (Abs.kj (e s)) some = some v ∧ j5 e (some d) v = e' := by
   have h : nz (Abs.kj (e s)) (fun a => tx τ o.type (.tmp s) a fun v => some (j5 e (some d) v)) = some e' := by
    cases hes : e s <;> rw [hes] at h ht <;> first
     | (exfalso; exact ht ⟨_, rfl⟩)
     | exact h
   obtain ⟨hne, h⟩ := xg h
   have h : (tx τ o.type (.tmp s) (Abs.kj (e s)) some).bind (fun v => some (j5 e (some d) v)) = some e' := by rw [agh]; exact h
   obtain ⟨v, h1, h2⟩ := Option.bind_eq_some_iff.1 h
   cases h2
   exact ⟨v, hne, h1, rfl⟩
  obtain ⟨v, h1, h2, rfl⟩ := hm
  exact hval v h1 h2
theorem alo {α : Type} {k : AV → Option α} {r : α} (h : val τ call e o k = some r) : ∃ v, val τ call e o some = some v ∧ k v = some r := by
 rw [anp] at h
 exact Option.bind_eq_some_iff.1 h
theorem aip {res : List Nat} {α : Type} {k : Env → Option α} {r : α} (h : step τ call res e o k = some r) : ∃ e', step τ call res e o some = some e' ∧ k e' = some r := by
 rw [aj5] at h
 exact Option.bind_eq_some_iff.1 h
theorem alp (hT : db P τ) (hcall : ∀ f l r, call f l = some r → PC P τ f l r) {res : List Nat} {e' : Env} (hs : ax τ B w c (aj a) e) (hd : ∀ d, o.dst = some d → d < a.tmps.size) (h : step τ call res e o some = some e') :
  Steps P o a w (qk τ B a w c e') := by
 unfold step at h
 split at h
 ·rename_i x d h1 h2
  obtain ⟨b, hb, g⟩ := ck h
  exact aum h1 hs hb (hd d h2) h2 g
 ·rename_i s d h1 h2
  refine asp h1 h2 (hd d h2) hs h fun v hne hv => ?_
  have hval : val τ call e o some = some v := by
   unfold val; simp only [h1, de]
   cases hes : Abs.kj (e s) <;> rw [hes] at hv hne <;> first | exact absurd rfl hne | exact hv
  have := ako (ags (d := o.dst.getD 0) hT hcall hs hval) hs hd
  rw [h2] at this
  exact this
 ·rename_i s i h1
  exact arb (x := .tmp s) h1 hs hd h
 ·rename_i t s x h1 h2
  exact apx hT h1 h2 hs h
 ·rename_i x y t0 t1 h1
  exact apu hT h1 hs hd h
 ·cases h
 ·obtain ⟨v, h1, h2⟩ := alo h
  cases h2
  exact ako (ags hT hcall hs h1) hs hd
end
end Go.Proofs.YtmdimhcjogjcgaaGreatDoor.Abs
