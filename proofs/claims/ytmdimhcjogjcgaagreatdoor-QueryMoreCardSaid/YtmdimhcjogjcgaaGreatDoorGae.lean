/- Operation by operation: those that touch no memory, or only read it, or make a new block. -/
import Derived.Test.YtmdimhcjogjcgaaGreatDoorGad
import Derived.Lib.Strings
import Derived.Laws.BytesArg
set_option linter.all false
noncomputable section
namespace Go.Proofs.YtmdimhcjogjcgaaGreatDoor.Abs
open Go.RowKit
def Left (P : Program) (τ : Tab) (B : Nat) (a : Act) (e : Env) (w : World) (c : Cls) (d : Nat) (v : AV) : Value → World → Prop :=
 fun u w' => ∃ c', Ext w.heap.size w c w' c' ∧ dx B w' c' (aj a) e d u v
section
variable {P : Program} {τ : Tab} {B : Nat} {w : World} {c : Cls} {a : Act} {e : Env} {o : Oper} {d : Nat} {v : AV} {call : Nat → List AV → Option AV}
theorem Left.same {u : Value} (h : dx B w c (aj a) e d u v) : Left P τ B a e w c d v u w := ⟨c, Ext.refl .., h⟩
theorem bq {u : Value} (h : (execOp a.eval o).run P w = .ok (.value u) w) (hu : dx B w c (aj a) e d u v) : ej P o a w (Left P τ B a e w c d v) := .value h (.same hu)
theorem at7 {x : Operand} (ho : o.op = .move x) (hs : ax τ B w c (aj a) e) (h : val τ call e o some = some v) : ej P o a w (Left P τ B a e w c d v) := by
 unfold val at h; simp only [ho] at h
 obtain ⟨b, hb, h⟩ := ck h
 obtain ⟨q, hq⟩ := hb.slot hs
 refine bq (u := a.eval x) (by simp [execOp, ho]) ?_
 unfold tx at h
 split at h
 ·cases h
  obtain ⟨_, ⟨t, h1, h2⟩ | ⟨k, h1, _⟩ | ⟨f, h1, _⟩⟩ := hb
  ·cases h1
   rename_i t _ _ _
   have h3 := hs.slot t
   rw [abw h2] at h3
   exact ⟨h3.1, fun z l' _ => rfl⟩
  ·cases h1
  ·cases h1
 ·cases h
 ·cases h
 ·cases h
 ·obtain ⟨v', hc, h⟩ := iq h; cases h; exact (hq.cst hc).slot
 ·cases h
  rename_i h1 h2 h3 h4 h5
  cases v <;> first
   | exact hq
   | (exfalso; exact h1 _ _ rfl) | (exfalso; exact h2 _ _ _ rfl) | (exfalso; exact h3 _ rfl)
theorem ao6 {x : Operand} (ho : o.op = .assign x) (hs : ax τ B w c (aj a) e) (h : val τ call e o some = some v) : ej P o a w (Left P τ B a e w c d v) := by
 unfold val at h; simp only [ho] at h
 obtain ⟨b, hb, h⟩ := ck h
 obtain ⟨q, hq⟩ := hb.slot hs
 refine bq (u := a.eval x) (by simp [execOp, ho]) ?_
 unfold zh at h
 split at h
 ·cases h
 ·cases h
 ·cases h
 ·cases h
 ·obtain ⟨_, _, _, _, i, _, _, h⟩ := ny h; cases h
  have hq : Rep w c _ .nil := hq
  generalize a.eval x = u at *
  cases hq
  exact ⟨.nil _, .inl ⟨rfl, rfl⟩⟩
 ·cases h
  rename_i h1 h2 h3 h4 h5
  cases b <;> first
   | exact hq
   | exact hq.1
   | (exfalso; exact h1 _ _ rfl) | (exfalso; exact h2 _ _ _ rfl) | (exfalso; exact h3 _ _ rfl) | (exfalso; exact h4 _ rfl)
theorem aua {x y z : Operand} (ho : o.op = .pick x y z) (hs : ax τ B w c (aj a) e) (h : val τ call e o some = some v) : ej P o a w (Left P τ B a e w c d v) := by
 unfold val at h; simp only [ho] at h
 obtain ⟨b, hb, h⟩ := ck h
 obtain ⟨q, hq⟩ := hb.slot hs
 obtain ⟨t, rfl, h⟩ := zn h
 have hx : a.eval x = .bool t := eo hq
 rcases ant h with ⟨rfl, h⟩ | ⟨rfl, h⟩
 ·obtain ⟨b, hb, h⟩ := ck h
  obtain ⟨q, hq⟩ := hb.slot hs
  obtain ⟨v', hc, h⟩ := iq h; cases h
  exact bq (u := a.eval y) (by simp [execOp, ho, hx, asBool]) (hq.cst hc).slot
 ·obtain ⟨b, hb, h⟩ := ck h
  obtain ⟨q, hq⟩ := hb.slot hs
  obtain ⟨v', hc, h⟩ := iq h; cases h
  exact bq (u := a.eval z) (by simp [execOp, ho, hx, asBool]) (hq.cst hc).slot
theorem ae2 (z : List AV) : ∀ (n j : Nat) (a : AV), ovr (oy n z) j = some a → (∃ s l, a = .own s l) ∧ n ≤ j ∧ z[j - n]? = some a := by
 induction z with
 | nil => intro n j a h; simp [oy, ovr] at h
 | cons x z ih =>
  intro n j a h
  have step : ovr (oy (n + 1) z) j = some a → (∃ s l, a = .own s l) ∧ n ≤ j ∧ (x :: z)[j - n]? = some a := fun h => by
   obtain ⟨h1, h2, h3⟩ := ih _ _ _ h
   refine ⟨h1, by omega, ?_⟩
   rw [show j - n = (j - (n + 1)) + 1 by omega]; simpa using h3
  cases x <;> first
   | exact step h
   | skip
  case own s l =>
   simp only [oy, ovr] at h
   by_cases hj : n = j
   ·subst hj
    simp only [agn, aa] at h
    cases h
    exact ⟨⟨_, _, rfl⟩, Nat.le_refl _, by simp⟩
   ·rw [du hj] at h
    exact step h
theorem ae3 (z : List AV) : ∀ (n j : Nat), ovr (oy n z) j = none → n ≤ j → ∀ s l, z[j - n]? ≠ some (.own s l) := by
 induction z with
 | nil => intro n j h hj s l hx; simp at hx
 | cons x z ih =>
  intro n j h hj s l hx
  have step : ovr (oy (n + 1) z) j = none → j ≠ n → False := fun h hne => by
   refine ih (n + 1) j h (by omega) s l ?_
   rw [show j - n = (j - (n + 1)) + 1 by omega] at hx; simpa using hx
  by_cases hj0 : j = n
  ·subst hj0
   simp only [Nat.sub_self, List.getElem?_cons_zero, Option.some.injEq] at hx
   subst hx
   simp [oy, ovr, aa] at h
  ·refine step ?_ hj0
   cases x <;> first
    | exact h
    | (simp only [oy, ovr, du (Ne.symm hj0), aa] at h; exact h)
theorem aq2 (hT : db P τ) {t : Nat} (ho : o.op = .alloc t) (hs : ax τ B w c (aj a) e) (h : val τ call e o some = some v) : ej P o a w (Left P τ B a e w c d v) := by
 unfold val at h; simp only [ho] at h
 obtain ⟨ti, hti, h⟩ := abv h
 cases h
 obtain ⟨i, z, h1, h2, h3, h4, h5, h6, h7⟩ := (hT t ti hti).info
 refine .value (u := .pointer (some ⟨w.heap.size, 0, none⟩)) (w' := w.alloc (.cells z.cells t)) ?_ ⟨mq c w.heap.size (.box d), yg .., w.heap.size, z.cells, t, rfl, hs.base, yh .., by simp [mq], h5, by simp [h6], ?_, ?_, ?_⟩
 ·simp [execOp, ho, Instr.alloc, at5 h1 h4, newVar, newRow]
 ·intro j x u h8 h9 h10
  rw [List.getElem?_map] at h9
  cases hz : ti.zero[j]? with
  | none => rw [hz] at h9; cases h9
  | some y =>
   rw [hz] at h9; cases h9
   have := h7 j u y h10 hz
   have hno := ae3 ti.zero 0 j h8 (Nat.zero_le _)
   cases y <;> first
    | exact (this _ _)
    | exact absurd hz (hno _ _)
    | (have := this w c; cases this)
 ·intro j x u h8 h9
  obtain ⟨⟨s, l, rfl⟩, _, h11⟩ := ae2 _ _ _ _ h8
  have := h7 j u _ h9 (by simpa using h11)
  show eh _ _ _ _ _ _ _
  cases l with
  | nil => have h12 : u = .slice none 0 0 := this; subst h12; exact ⟨.nil _, .inl ⟨rfl, rfl⟩⟩
  | cons y l => have := this w c; cases this
 ·intro j x h8
  obtain ⟨_, _, h11⟩ := ae2 _ _ _ _ h8
  rw [← h6]; simpa using (List.getElem?_eq_some_iff.1 h11).1
theorem ac4 {u : Value} {x : AV} (h : Rep w c u x) : Rep w c u (frz x) := by cases h <;> first | exact .undef _ (by assumption) | exact .bool _ | exact .int _ _ | exact .str _ | exact .nilc | exact .nil _ | exact .emp _ _ _ | (constructor <;> assumption)
structure akh (w : World) (c : Cls) (sz : Nat) (u : Value) (cs : List AV) : Prop where
 size : u.cells.size = sz
 len : cs.length = sz
 rep : ∀ (j : Nat) (x : AV) (y : Value), cs[j]? = some x → u.cells[j]? = some y → Rep w c y x
theorem pw {u : Value} {t : Nat} {ti : TI} {v v' : AV} {cs : List AV} (hT : db P τ) (hti : τ.T t = some ti) (hc : Cst τ t v v') (hp : gy w c u v')
  (hcs : (v' = .agg ti.sz cs) ∨ ((∀ s c', v' ≠ .agg s c') ∧ cs = [v'] ∧ ((∃ b, v' = .bool b) ∨ (∃ kd n, v' = .int kd n) ∨ (∃ s, v' = .str s) ∨ (∃ s l, v' = .sl s l) ∨ ∃ f l, v' = .fn f l))) :
  akh w c ti.sz u cs := by
 rcases hcs with rfl | ⟨hna, rfl, hk⟩
 ·obtain ⟨vs, rfl, h1, h2, h3⟩ := hp
  exact ⟨h1, h2, h3⟩
 ·obtain ⟨_, i, hi, hm⟩ := hc
  rw [hti] at hi; cases hi
  have hk2 := (hT t ti hti).kind
  have hrep : Rep w c u v' := by rcases hk with ⟨_, rfl⟩ | ⟨_, _, rfl⟩ | ⟨_, rfl⟩ | ⟨_, _, rfl⟩ | ⟨_, _, rfl⟩ <;> exact hp
  have h1 : ti.sz = 1 := by
   generalize ti.k = k at *
   cases k <;> simp only at hk2 hm <;> first
    | exact hk2.2
    | (rcases hk with ⟨_, rfl⟩ | ⟨_, _, rfl⟩ | ⟨_, rfl⟩ | ⟨_, _, rfl⟩ | ⟨_, _, rfl⟩ <;> simp at hm)
  have hu : u.cells = #[u] := by have := wj hrep; cases u <;> first | rfl | cases this
  refine ⟨by rw [hu, h1]; rfl, by simp [h1], fun j x y hx hy => ?_⟩
  rw [hu] at hy
  cases j with
  | zero => simp at hx hy; subst hx; subst hy; exact hrep
  | succ j => simp at hx
theorem ax2 (hT : db P τ) {t : Nat} {x : Operand} (ho : o.op = .box t x) (hs : ax τ B w c (aj a) e) (h : val τ call e o some = some v) : ej P o a w (Left P τ B a e w c d v) := by
 unfold val at h; simp only [ho] at h
 obtain ⟨b, hb, h⟩ := ck h
 obtain ⟨q, hq⟩ := hb.slot hs
 obtain ⟨v', hc, h⟩ := iq h
 obtain ⟨ti, hti, h⟩ := ja h
 obtain ⟨cs, hcs, h⟩ := oa h
 cases h
 have hr := pw hT hti hc (hq.cst hc) hcs
 refine .value (u := .pointer (some ⟨w.heap.size, 0, none⟩)) (w' := w.alloc (.cells (a.eval x).cells t)) ?_ ⟨mq c w.heap.size (.box d), yg .., w.heap.size, (a.eval x).cells, t, rfl, hs.base, yh .., by simp [mq], hr.size, hr.len, ?_, ?_, ?_⟩
 ·simp [execOp, ho, Instr.box, newVar, newRow]
 ·intro j y u _ h9 h10
  exact (hr.rep j y u h9 h10).ext (yg w c (.cells (a.eval x).cells t) (.box d))
 ·intro j y u h8; simp [ovr] at h8
 ·intro j y h8; simp [ovr] at h8
theorem am2 {t f : Nat} {F : Array Field} {g : Field} {fi : TypeInfo} (hF : P.underlying t = some (.struct F)) (hg : F[f]? = some g) (hfi : P.info? g.type = some fi) (hp : 0 < fi.size) (b n : Nat) :
  (Instr.fieldAt t (.pointer (some ⟨b, n, none⟩)) f).run P w = .ok (.pointer (some ⟨b, n + g.offset, none⟩)) w := by
 simp [Instr.fieldAt, cq hF, hg, Instr.sureAddr, fieldPlace, akg hfi, Nat.pos_iff_ne_zero.1 hp, j6]
theorem ah1 (hT : db P τ) {t : Nat} {fs : List (Nat × Nat)} {s b : Nat} {z : List AV} (hti : τ.T t = some ⟨.struct fs, s, b, z⟩) :
  ∃ F : Array Field, P.underlying t = some (.struct F) ∧ fs = F.toList.map (fun f => (f.offset, f.type)) ∧ ∀ f ∈ F.toList, ∃ fi, P.info? f.type = some fi ∧ 0 < fi.size ∧ f.offset + fi.size ≤ s := (hT t _ hti).kind
theorem aki (hT : db P τ) {t f : Nat} {fs : List (Nat × Nat)} {s b off ft : Nat} {z : List AV} (hti : τ.T t = some ⟨.struct fs, s, b, z⟩) (hf : fs[f]? = some (off, ft)) :
  ∃ F g fi, P.underlying t = some (.struct F) ∧ F[f]? = some g ∧ g.offset = off ∧ g.type = ft ∧ P.info? g.type = some fi ∧ 0 < fi.size ∧ off + fi.size ≤ s := by
 obtain ⟨F, hF, hfs, hsz⟩ := ah1 hT hti
 rw [hfs, List.getElem?_map] at hf
 cases hx : F.toList[f]? with
 | none => rw [hx] at hf; cases hf
 | some g =>
  rw [hx] at hf; cases hf
  obtain ⟨fi, h1, h2, h3⟩ := hsz g (List.mem_of_getElem? hx)
  exact ⟨F, g, fi, hF, by simpa using hx, rfl, rfl, h1, h2, h3⟩
theorem ai5 (hT : db P τ) {t f : Nat} {x : Operand} (ho : o.op = .fieldAddr t x f) (hs : ax τ B w c (aj a) e) (h : val τ call e o some = some v) : ej P o a w (Left P τ B a e w c d v) := by
 unfold val at h; simp only [ho] at h
 obtain ⟨fs, s, b, z, off, ft, hti, hf, h⟩ := adh h
 obtain ⟨F, g, fi, hF, hg, rfl, rfl, h1, h2, _⟩ := aki hT hti hf
 have hrun : ∀ b n, a.eval x = .pointer (some ⟨b, n, none⟩) → (execOp a.eval o).run P w = .ok (.value (.pointer (some ⟨b, n + g.offset, none⟩))) w := fun b n hx => by
  simp only [execOp, ho, hx, Sem.run_bind, am2 hF hg h1 h2, Result.andThen_ok, Sem.run_pure]
 cases x with
 | const => cases h
 | global => cases h
 | func => cases h
 | tmp q =>
 have hq := hs.slot q
 have h : abi e q g.offset some (e q) = some v := h
 rcases ao3 h with ⟨zz, cs, m, hx, h⟩ | ⟨dd, oo, hx, ⟨zz, cs, m, hy⟩, h⟩ | ⟨zz, cs, oo, hx, h⟩ <;> rw [hx] at hq <;> cases h
 ·obtain ⟨b, vs, ty, h3, _⟩ := hq
  refine bq (hrun b 0 h3) ?_
  intro z' cs' m' _
  exact ⟨b, h3, by simp⟩
 ·obtain ⟨b, h3, h4⟩ := hq zz cs m hy
  refine bq (hrun b oo h4) ?_
  intro z' cs' m' _
  exact ⟨b, h3, rfl⟩
 ·obtain ⟨b, n, h3, h4, fv, h5, h6, h7⟩ := xh hq
  refine bq (hrun b (n + oo) h3) ?_
  show Rep w c _ _
  rw [show n + oo + g.offset = n + (oo + g.offset) by omega]
  exact .eptr b n zz cs (oo + g.offset) fv h4 h5 h6 h7
end
end Go.Proofs.YtmdimhcjogjcgaaGreatDoor.Abs
namespace Go.Proofs.YtmdimhcjogjcgaaGreatDoor.Abs
open Go.RowKit
section
variable {P : Program} {τ : Tab} {B : Nat} {w : World} {c : Cls} {a : Act} {e : Env} {o : Oper} {d : Nat} {v : AV} {call : Nat → List AV → Option AV}
theorem tg (hT : db P τ) {t el s b : Nat} {z : List AV} (hti : τ.T t = some ⟨.slice el, s, b, z⟩) : P.underlying t = some (.slice el) := (hT t _ hti).kind.1.1
theorem agq (hT : db P τ) {t : Nat} {ti : TI} (hti : τ.T t = some ti) : ∃ i, P.info? t = some i ∧ i.size = ti.sz := by
 obtain ⟨i, z, h1, h2, _⟩ := (hT t _ hti).info; exact ⟨i, h1, h2⟩
theorem lq (hT : db P τ) {t : Nat} {ti : TI} (hti : τ.T t = some ti) : (sizeOf t).run P w = .ok ti.sz w := by
 obtain ⟨i, h1, h2⟩ := agq hT hti; rw [akg h1, h2]
theorem aub {u : Value} {sz : Nat} {l : List (List AV)} {n : Nat} {cs : List AV} (h : Rep w c u (.sl sz l)) (hn : l[n]? = some cs) : ∃ g q cap, u = .slice (some ⟨g, q, none⟩) l.length cap ∧ n < l.length ∧ Rep w c (.pointer (some ⟨g, q + n * sz, none⟩)) (.eptr sz cs 0) := by
 obtain ⟨b, cap, hu, h1, h2, h3⟩ := gz h
 have hlt : n < l.length := (List.getElem?_eq_some_iff.1 hn).1
 obtain ⟨g, q, hb, h4, f, h5, h6, h7⟩ := h3 (by omega)
 subst hb
 refine ⟨g, q, cap, hu, hlt, ?_⟩
 have := Rep.eptr (w := w) (c := c) g (q + n * sz) sz cs 0 (f n) (h4 n cs hn) (fun j hj => by rw [Nat.add_assoc]; exact h5 n j hlt hj) (fun j hj => by rw [Nat.add_assoc]; exact h6 n j hlt hj) (fun j x hx => h7 n j cs x hn hx)
 exact this
theorem ai6 (hT : db P τ) {t : Nat} {x i : Operand} (ho : o.op = .indexAddr t x i) (hs : ax τ B w c (aj a) e) (h : val τ call e o some = some v) : ej P o a w (Left P τ B a e w c d v) := by
 unfold val at h; simp only [ho] at h
 have h : wg τ e t x i some = some v := h
 unfold wg at h
 split at h
 ·rename_i g _
  split at h
  ·rename_i n t' s b z cs0 hti hg
   obtain ⟨ti, hte, h⟩ := ja h
   obtain ⟨hgd, h⟩ := bn h
   simp only [Bool.and_eq_true] at hgd
   have h1 : ti.sz = 1 := Nat.eq_of_beq_eq_true hgd.1
   have h2 : cs0.length = n := Nat.eq_of_beq_eq_true hgd.2
   obtain ⟨b2, hb2, h⟩ := ck h
   obtain ⟨q2, hq2⟩ := hb2.slot hs
   obtain ⟨kd, m, rfl, h⟩ := tf h
   obtain ⟨y, hn, hy, h⟩ := ac3 h
   cases h
   have hi : a.eval i = .int kd m := fb hq2
   obtain ⟨b, n0, k1, _, f, k2, k3, k4⟩ := xh (hs.g g cs0 hg)
   have hlt : m.toNat < cs0.length := (List.getElem?_eq_some_iff.1 hy).1
   have hu : P.underlying t = some (.array n t') := (hT t _ hti).kind
   have hev : a.eval (.global g) = .pointer (some ⟨b, n0 + 0, none⟩) := k1
   have hlt' : m < (n : Int) := by omega
   refine bq (u := .pointer (some ⟨b, n0 + m.toNat, none⟩)) ?_ (Rep.eptr b (n0 + m.toNat) 1 [y] 0 (fun _ => f m.toNat) rfl (fun j hj => ?_) (fun j hj => ?_) (fun j x hx => ?_))
   ·simp [execOp, ho, Instr.indexAt, hi, asIntOf, cq hu, hev, Instr.sureAddr, hn, hlt', lq hT hte, h1, Addr.add]
   ·obtain rfl : j = 0 := by omega
    rw [Nat.add_zero]; exact k2 _ hlt
   ·obtain rfl : j = 0 := by omega
    rw [Nat.add_zero]; exact k3 _ hlt
   ·rcases j with _ | j
    ·cases hx; exact k4 _ _ hy
    ·cases hx
  ·cases h
 ·obtain ⟨el, s, b, z, hti, h⟩ := ahz h
  obtain ⟨ti, hte, h⟩ := ja h
  obtain ⟨b1, hb, h⟩ := ck h
  obtain ⟨q, hq⟩ := hb.slot hs
  obtain ⟨l, hl, h⟩ := rh h
  obtain ⟨b2, hb2, h⟩ := ck h
  obtain ⟨q2, hq2⟩ := hb2.slot hs
  obtain ⟨kd, n, rfl, h⟩ := tf h
  obtain ⟨cs, hn, hcs, h⟩ := ac3 h
  cases h
  obtain ⟨g, qo, cap, hu, hlt, hr⟩ := aub (hq.isL hl) hcs
  have hi : a.eval i = .int kd n := fb hq2
  refine bq (u := .pointer (some ⟨g, qo + n.toNat * ti.sz, none⟩)) ?_ hr
  have hlt' : n < (l.length : Int) := by omega
  simp [execOp, ho, Instr.indexAt, hi, asIntOf, cq (tg hT hti), hu, hn, hlt', lq hT hte, j6]
theorem a0f {bs : ByteArray} {n : Nat} {b : UInt8} (h : bs.data.toList[n]? = some b) : bs[n]? = some b := by
 have h1 := List.getElem?_eq_some_iff.1 h
 have hlt : n < bs.size := by obtain ⟨h2, _⟩ := h1; simpa using h2
 rw [getElem?_pos bs n hlt]
 obtain ⟨_, h3⟩ := h1
 exact congrArg some (by rw [← h3]; rfl)
theorem ai7 (hT : db P τ) {t : Nat} {x i : Operand} (ho : o.op = .index t x i) (hs : ax τ B w c (aj a) e) (h : val τ call e o some = some v) : ej P o a w (Left P τ B a e w c d v) := by
 unfold val at h; simp only [ho] at h
 obtain ⟨b1, hb, h⟩ := ck h
 obtain ⟨q, hq⟩ := hb.slot hs
 obtain ⟨b2, hb2, h⟩ := ck h
 obtain ⟨q2, hq2⟩ := hb2.slot hs
 obtain ⟨kd, n, hb2', h⟩ := tf h
 subst hb2'
 have hi : a.eval i = .int kd n := fb hq2
 replace h : zi τ t b1 n some = some v := h
 unfold zi at h
 split at h
 ·rename_i sz bb z hti
  obtain ⟨s, rfl, h⟩ := ac1 h
  obtain ⟨by_, hn, hcs, h⟩ := ac3 h
  cases h
  obtain ⟨bs, hu, rfl⟩ := gu hq
  have hx : bs[n.toNat]? = some by_ := a0f hcs
  refine bq (u := .int .u8 by_.toNat) ?_ (Rep.int _ _)
  have hk : P.underlying t = some .string := ((hT t _ hti).kind).1
  simp [execOp, ho, Instr.index, hi, asIntOf, cq hk, hu, hn, hx]
 ·rename_i n' t' sz bb z hti
  obtain ⟨ti, hte, h⟩ := ja h
  obtain ⟨hg, h⟩ := bn h
  simp only [Bool.and_eq_true] at hg
  have h1 : ti.sz = 1 := Nat.eq_of_beq_eq_true hg.1
  have h2 : sz = n' := Nat.eq_of_beq_eq_true hg.2
  obtain ⟨cs, hagg, h'⟩ := ac2 h
  subst hagg
  obtain ⟨x', hn, hcs, h'⟩ := ac3 h'
  obtain ⟨v', hc, h'⟩ := iq h'
  cases h'
  obtain ⟨vs, hu, h3, h4, h5⟩ := hq
  have hlt : n.toNat < cs.length := (List.getElem?_eq_some_iff.1 hcs).1
  have hlv : n.toNat < vs.size := by omega
  have hr := h5 n.toNat x' vs[n.toNat] hcs (by simp [hlv])
  have hp := hr.plain hc
  have hk : P.underlying t = some (.array n' t') := (hT t _ hti).kind
  refine bq (u := vs[n.toNat]) ?_ hp.slot
  have hkk := (hT t' ti hte).kind
  have hagg : (isAgg t').run P w = .ok false w := by
   obtain ⟨_, i2, hi2, hm⟩ := hc
   rw [hte] at hi2; cases hi2
   have hone := wj hr
   generalize hkd : ti.k = kk at *
   cases kk <;> simp only at hkk hm
   case bool => simp [isAgg, cq hkk.1]
   case int => simp [isAgg, cq hkk.1]
   case str => simp [isAgg, cq hkk.1]
   case slice => simp [isAgg, cq hkk.1.1]
   case func => obtain ⟨⟨ps, rs, vv, hkk⟩, _⟩ := hkk; simp [isAgg, cq hkk]
   case struct => cases v <;> simp at hm; obtain ⟨vs', hvv, _⟩ := hp; rw [hvv] at hone; cases hone
   case array => cases v <;> simp at hm; obtain ⟨vs', hvv, _⟩ := hp; rw [hvv] at hone; cases hone
  have hlt' : n < (n' : Int) := by omega
  simp [execOp, ho, Instr.index, hi, asIntOf, cq hk, hu, hn, hlt', lq hT hte, h1, part, hagg, hlv]
 ·cases h
theorem km : ∀ x y : List UInt8, Op.bytesLess x y = ai x y
 | _, [] => by cases ‹List UInt8› <;> rfl
 | [], _ :: _ => rfl
 | a :: x, b :: y => by simp only [Op.bytesLess, ai, km x y]
theorem aq3 {op : BinOp} {t : TypeId} {x y : Operand} {k : IntKind} {n : Int} {u' : Value} : (eqGuard op t x y (.int k n) u').run P w = .ok () w := by cases op <;> rfl
theorem aq4 {op : BinOp} {t : TypeId} {x y : Operand} {s : ByteArray} {u' : Value} : (eqGuard op t x y (.string s) u').run P w = .ok () w := by cases op <;> rfl
theorem ae4 {op : BinOp} {t : TypeId} {x y : Operand} {s : Bool} {u' : Value} : (eqGuard op t x y (.bool s) u').run P w = .ok () w := by cases op <;> rfl
theorem yi {op : BinOp} {t t' : Nat} {x y : Operand} {u : Value} (ho : o.op = .binOp op t x y t') (hg : (eqGuard op t x y (a.eval x) (a.eval y)).run P w = .ok () w)
  (hr : (binOp op t (a.eval x) (a.eval y)).run P w = .ok u w) : (execOp a.eval o).run P w = .ok (.value u) w := by
 simp only [execOp, ho, Sem.run_bind, hg, hr, Result.andThen_ok, Sem.run_pure]
theorem ax3 (l l' : List UInt8) : (l == l') = decide (l = l') := by rw [Bool.eq_iff_iff, beq_iff_eq, decide_eq_true_iff]
theorem ax4 (m n : Int) : (m == n) = decide (m = n) := by rw [Bool.eq_iff_iff, beq_iff_eq, decide_eq_true_iff]
theorem aq5 (hT : db P τ) {op : BinOp} {t t' : Nat} {x y : Operand} (ho : o.op = .binOp op t x y t') (hs : ax τ B w c (aj a) e) (h : val τ call e o some = some v) : ej P o a w (Left P τ B a e w c d v) := by
  unfold val at h; simp only [ho] at h
  obtain ⟨b1, hb, g1⟩ := ck h
  clear h
  obtain ⟨q, hq⟩ := hb.slot hs
  obtain ⟨b2, hb2, g2⟩ := ck g1
  clear g1
  obtain ⟨q2, hq2⟩ := hb2.slot hs
  have hh := ax1 g2
  clear g2
  rcases hh with ⟨k1, m, k2, n, e1, e2, h⟩ | ⟨s1, s2, e1, e2, h⟩ | ⟨p1, p2, e1, e2, ⟨sz, bb, z, hti⟩, h⟩ <;> subst e1 <;> subst e2
  · have h1 : a.eval x = .int k1 m := fb hq
    have h2 : a.eval y = .int k2 n := fb hq2
    have gd : ∀ {u}, (binOp op t (.int k1 m) (.int k2 n)).run P w = .ok u w → dx B w c (aj a) e d u v → ej P o a w (Left P τ B a e w c d v) := fun {u} hr hu =>
      bq (yi ho (by rw [h1]; exact aq3) (by rw [h1, h2]; exact hr)) hu
    rcases h with h | ⟨hk, h⟩
    · cases op <;> simp only [shI] at h <;> first
        | (cases h; done)
        | skip
      · obtain ⟨hg, h⟩ := bn h; cases h
        have hg := of_decide_eq_true hg
        exact gd (by simp only [binOp, Op.shift, Int.not_lt.2 hg, if_false, Sem.run_pure]) (Rep.int _ _)
      · obtain ⟨hg, h⟩ := bn h; cases h
        have hg := of_decide_eq_true hg
        exact gd (by simp only [binOp, Op.shift, Int.not_lt.2 hg, if_false, Sem.run_pure]) (Rep.int _ _)
    · subst hk
      cases op <;> simp only [ajx] at h <;> first
        | (cases h; done)
        | (cases h; exact gd (by simp [binOp, Op.intArith]; rfl) (Rep.int _ _))
        | (cases h; exact gd (by simp [binOp]; rfl) (Rep.int _ _))
        | (obtain ⟨hg, h⟩ := bn h; cases h; have hg : n ≠ 0 := by simpa using hg
           exact gd (by simp only [binOp, Op.intDiv, hg, if_false, Sem.run_pure, ne_eq, not_true_eq_false]) (Rep.int _ _))
        | (cases h; refine gd (u := .bool _) ?_ (Rep.bool _); simp only [binOp, Op.intCmp, Sem.run_pure, ne_eq, not_true_eq_false, if_false, ax4, bne]; done)
        | (cases h; refine gd (u := .bool _) ?_ (Rep.bool _); simp only [binOp, Op.intCmp, Sem.run_pure, ne_eq, not_true_eq_false, if_false]; done)
        | (cases h; refine gd (u := .bool _) ?_ (Rep.bool _); simp only [binOp, Op.intCmp, Sem.run_pure, ne_eq, not_true_eq_false, if_false]; congr 2; simp [beq_eq_decide, bne])
  · obtain ⟨b1, h1, rfl⟩ := gu hq
    obtain ⟨b2, h2, rfl⟩ := gu hq2
    have gd : ∀ {u}, (binOp op t (.string b1) (.string b2)).run P w = .ok u w → dx B w c (aj a) e d u v → ej P o a w (Left P τ B a e w c d v) := fun {u} hr hu =>
      bq (yi ho (by rw [h1]; exact aq4) (by rw [h1, h2]; exact hr)) hu
    have heq : (b1.toList == b2.toList) = decide (b1.data.toList = b2.data.toList) := by
      rw [Lib.toList_data, Lib.toList_data]; exact ax3 _ _
    have hlt : Op.bytesLess b1.toList b2.toList = ai b1.data.toList b2.data.toList := by
      rw [Lib.toList_data, Lib.toList_data, km]
    cases op <;> simp only [ajy] at h <;> first
      | (cases h; done)
      | skip
    case add =>
      obtain ⟨hg, h⟩ := bn h; cases h
      have hg := Nat.le_of_ble_eq_true hg
      refine gd (u := .string (b1 ++ b2)) ?_ ?_
      · have : ¬ ((b1.size + b2.size : Nat) : Int) > IntKind.i64.max := by
          have h1 : b1.size = b1.data.toList.length := by simp
          have h2 : b2.size = b2.data.toList.length := by simp
          rw [h1, h2]; unfold lim at hg; simp only [IntKind.max, IntKind.signed, IntKind.bits, if_true]; omega
        simp only [binOp, Op.stringOp, this, if_false, Sem.run_pure]
      · have := Rep.str (w := w) (c := c) (b1 ++ b2)
        rw [show (b1 ++ b2).data.toList = b1.data.toList ++ b2.data.toList by simp] at this
        exact this
    all_goals
      cases h
      refine gd (u := .bool _) ?_ (Rep.bool _)
      simp only [binOp, Op.stringOp, heq, hlt, Sem.run_pure]
  · have h1 : a.eval x = .bool p1 := eo hq
    have h2 : a.eval y = .bool p2 := eo hq2
    have hk : P.underlying t = some .bool := ((hT t _ hti).kind).1
    have heq : ∀ n, (Op.equalIn (n + 1) t (.bool p1) (.bool p2)).run P w = .ok (p1 == p2) w := fun n => by simp [Op.equalIn, cq hk]
    rcases h with ⟨rfl, h⟩ | ⟨rfl, h⟩ <;> cases h
    · refine bq (u := .bool _) (yi ho (by rw [h1]; exact ae4) ?_) (Rep.bool _)
      rw [h1, h2]; simp only [binOp, Op.equal, Op.maxDepth, Sem.run_bind, heq 9999, Result.andThen_ok, Sem.run_pure]
    · refine bq (u := .bool _) (yi ho (by rw [h1]; exact ae4) ?_) (Rep.bool _)
      rw [h1, h2]; simp only [binOp, Op.equal, Op.maxDepth, Sem.run_bind, heq 9999, Result.andThen_ok, Sem.run_pure]
end
end Go.Proofs.YtmdimhcjogjcgaaGreatDoor.Abs
namespace Go.Proofs.YtmdimhcjogjcgaaGreatDoor.Abs
open Go.RowKit
section
variable {P : Program} {τ : Tab} {B : Nat} {w : World} {c : Cls} {a : Act} {e : Env} {o : Oper} {d : Nat} {v : AV} {call : Nat → List AV → Option AV}
theorem auc {op : UnOp} {t : Nat} {x : Operand} (ho : o.op = .unOp op t x) (hs : ax τ B w c (aj a) e) (h : val τ call e o some = some v) : ej P o a w (Left P τ B a e w c d v) := by
 unfold val at h; simp only [ho] at h
 obtain ⟨b1, hb, g⟩ := ck h
 clear h
 obtain ⟨q, hq⟩ := hb.slot hs
 unfold un at g
 split at g
 ·cases g
  have h1 := eo hq
  exact bq (u := .bool _) (by simp only [execOp, ho, h1, Op.unary, Sem.run_bind, Sem.run_pure, Result.andThen_ok]) (Rep.bool _)
 ·cases g
  have h1 := fb hq
  exact bq (u := .int _ _) (by simp only [execOp, ho, h1, Op.unary, Op.intArith, Sem.run_bind, Sem.run_pure, Result.andThen_ok]) (Rep.int _ _)
 ·cases g
theorem ao7 (hT : db P τ) {t : Nat} {ti : TI} (h : τ.T t = some ti) (hn : aj0 ti.k = true) : ∃ d, P.underlying t = some d := by
 have := (hT t ti h).kind
 generalize ti.k = k at *
 cases k <;> simp only at this <;> first
  | exact ⟨_, this.1⟩
  | exact ⟨_, this.1.1⟩
  | exact ⟨_, this⟩
  | (obtain ⟨F, h, _⟩ := this; exact ⟨_, h⟩)
  | (obtain ⟨⟨p, r, v, h⟩, _⟩ := this; exact ⟨_, h⟩)
  | cases hn
theorem ae5 : ∀ {l : List (List AV)} {s : List UInt8}, bytesOf l = some s → ∃ xs : List Int, l = xs.map (fun n => [.int .u8 n]) ∧ s = xs.map fun n => UInt8.ofNat n.toNat
 | [], s, h => by simp only [bytesOf, Option.some.injEq] at h; subst h; exact ⟨[], rfl, rfl⟩
 | x :: r, s, h => by
  unfold bytesOf at h
  split at h
  ·rename_i h0; cases h0
  ·rename_i n r' h0
   cases h0
   split at h
   ·rename_i l hl
    cases h
    obtain ⟨xs, h1, h2⟩ := ae5 hl
    exact ⟨n :: xs, by rw [h1]; rfl, by rw [h2]; rfl⟩
   ·cases h
  ·cases h
theorem aq6 {src dst et : Nat} {u : Value} {xs : List Int} (hs : P.underlying src = some (.slice et)) (he : P.underlying et = some (.int .u8)) (hd : P.underlying dst = some .string) (h : Rep w c u (.sl 1 (xs.map fun n => [.int .u8 n]))) :
  (convert src dst u).run P w = .ok (.string (strOfNums xs)) w := by
 obtain ⟨bo, cap, rfl, _, _, h4⟩ := gz h
 rw [List.length_map] at h4 ⊢
 rw [run_convert_bytes_string w src dst et bo xs.length cap hs he hd]
 cases bo with
 | none =>
  have : xs = [] := by
   cases xs with
   | nil => rfl
   | cons a r => obtain ⟨g, o, h, _⟩ := h4 (by simp); cases h
  subst this
  simp [Conv.bytesToString, strOfNums, ByteArray.empty, ByteArray.emptyWithCapacity]
  try rfl
 | some p =>
  have hl : (loadCells p xs.length).run P w = .ok (xs.map (Value.int .u8)).toArray w := by
   have := run_loadCells_list (P := P) w p (xs.map (Value.int .u8)) (fun j v hj => by
    rw [List.getElem?_map] at hj
    cases hx : xs[j]? with
    | none => rw [hx] at hj; cases hj
    | some n =>
     rw [hx] at hj
     cases hj
     have hjl := (List.getElem?_eq_some_iff.1 hx).1
     obtain ⟨g, o, hp, _, f, h6, _, h8⟩ := h4 (by omega)
     obtain rfl : p = ⟨g, o, none⟩ := Option.some.inj hp
     have h8 := fb (h8 j 0 [.int .u8 n] (.int .u8 n) (by rw [List.getElem?_map, hx]; rfl) rfl)
     have h6 := h6 j 0 hjl (by decide)
     rw [j6, ← h8, ← h6]
     congr 2
     omega)
   simpa using this
  rw [run_bytesToString w p xs.length cap xs hl, foldl_push_bytes]
  simp [strOfNums, ByteArray.empty, ByteArray.emptyWithCapacity]
  try rfl
theorem am3 (hT : db P τ) {src dst : Nat} {x : Operand} (ho : o.op = .convert src dst x) (hs : ax τ B w c (aj a) e) (h : val τ call e o some = some v) : ej P o a w (Left P τ B a e w c d v) := by
 unfold val at h; simp only [ho] at h
 obtain ⟨b1, hb, g⟩ := ck h
 clear h
 obtain ⟨q, hq⟩ := hb.slot hs
 obtain ⟨si, hsi, g1⟩ := abv g
 clear g
 obtain ⟨hg, g⟩ := bn g1
 clear g1
 obtain ⟨ds, hds⟩ := ao7 hT hsi hg
 unfold aeq at g
 cases hsl : atq b1 with
 | true =>
  rw [hsl] at g
  replace g : acq τ src dst b1 some = some v := g
  unfold acq at g
  split at g
  ·rename_i hti
   unfold u8K at g
   split at g
   ·rename_i hsrc
    split at g
    ·rename_i het
     obtain ⟨l, hl, g⟩ := rh g
     unfold abj at g
     split at g
     ·rename_i hbs
      cases g
      obtain ⟨xs, rfl, rfl⟩ := ae5 hbs
      have h1 := aq6 (hT src _ hsrc).kind.1.1 (hT _ _ het).kind.1 (hT dst _ hti).kind.1 (hq.isL hl)
      exact bq (u := .string (strOfNums xs)) (by simp only [execOp, ho, h1, Sem.run_bind, Sem.run_pure, Result.andThen_ok]) (Rep.str _)
     ·cases g
    ·cases g
   ·cases g
  ·cases g
 | false =>
 rw [hsl] at g
 replace g : conv τ dst b1 some = some v := g
 unfold conv at g
 split at g
 ·rename_i hti
  cases g
  have hk : P.underlying dst = some (.int _) := ((hT dst _ hti).kind).1
  have h1 := fb hq
  exact bq (u := .int _ _) (by simp only [execOp, ho, h1, convert, cq hds, cq hk, Conv.intToInt, Sem.run_bind, Sem.run_pure, Result.andThen_ok]) (Rep.int _ _)
 ·rename_i hti
  cases g
  have hk : P.underlying dst = some .string := ((hT dst _ hti).kind).1
  obtain ⟨s, h1, rfl⟩ := gu hq
  exact bq (u := .string s) (by simp only [execOp, ho, h1, convert, cq hds, cq hk, Sem.run_bind, Sem.run_pure, Result.andThen_ok]) (Rep.str _)
 ·cases g
theorem akj {x : Operand} (ho : o.op = .nilCheck x) (hs : ax τ B w c (aj a) e) (h : val τ call e o some = some v) : ej P o a w (Left P τ B a e w c d v) := by
 unfold val at h; simp only [ho] at h
 obtain ⟨b1, hb, g⟩ := ck h
 clear h
 obtain ⟨q, hq⟩ := hb.slot hs
 obtain ⟨f, cs, e1, g⟩ := agp g
 subst e1; cases g
 obtain ⟨vs, h1, _⟩ := aq1 hq
 refine bq (u := a.eval x) ?_ hq
 rw [h1]; simp only [execOp, ho, h1]; rfl
theorem am4 {x : Operand} {i : Nat} (ho : o.op = .extract x i) (hs : ax τ B w c (aj a) e) (h : val τ call e o some = some v) : ej P o a w (Left P τ B a e w c d v) := by
 unfold val at h; simp only [ho] at h
 obtain ⟨b1, hb, g⟩ := ck h
 clear h
 obtain ⟨q, hq⟩ := hb.slot hs
 unfold aer at g
 split at g
 ·rename_i l
  obtain ⟨y, hy, g⟩ := qq g
  obtain ⟨hne, g⟩ := xg g
  cases g
  obtain ⟨vs, h1, h2, h3⟩ := hq
  have hlt : i < l.length := (List.getElem?_eq_some_iff.1 hy).1
  have hp := h3 i y vs[i] hy (by simp [h2, hlt])
  refine bq (u := vs[i]) (by simp [execOp, ho, h1, Instr.extract, h2, hlt]) ?_
  cases y <;> simp only [gq] at hp <;> first
   | exact hp.1
   | exact (hp : False).elim
   | exact hp
 ·cases g
theorem akk {f : Nat} {first caps : Array Operand} (ho : o.op = .makeFunc (.func f) first caps) (hs : ax τ B w c (aj a) e) (h : val τ call e o some = some v) : ej P o a w (Left P τ B a e w c d v) := by
 obtain ⟨first⟩ := first
 cases first with
 | cons y ys => unfold val at h; simp only [ho] at h; cases h
 | nil =>
  unfold val at h; simp only [ho] at h
  obtain ⟨l, hl, hi, g⟩ := abu h
  clear h
  obtain ⟨hg, g⟩ := bn g
  cases g
  refine bq (u := .func (.func f) #[] (caps.map a.eval)) ?_ ?_
  ·simp only [execOp, ho, Instr.makeFunc, Sem.run_bind, Sem.run_pure, Result.andThen_ok]; simp
  ·refine Rep.fn f _ _ (by simp [hl]) fun i u y hu hy => ?_
   rw [List.getElem?_map] at hy
   cases hz : l[i]? with
   | none => rw [hz] at hy; cases hy
   | some z =>
    rw [hz] at hy; cases hy
    rw [Array.getElem?_map] at hu
    cases hx : caps[i]? with
    | none => rw [hx] at hu; cases hu
    | some x =>
     rw [hx] at hu; cases hu
     obtain ⟨q, hq⟩ := (hi i x z (by simpa using hx) hz).slot hs
     have hz' := List.all_eq_true.1 hg z (List.mem_of_getElem? hz)
     cases z <;> first
      | (cases hz'; done)
      | exact hq
      | exact hq.1
theorem ax5 (hT : db P τ) {args : Array Operand} {ts : Array TypeId} (ho : o.op = .call ⟨.builtin .len, args, ts⟩) (hs : ax τ B w c (aj a) e) (h : val τ call e o some = some v) : ej P o a w (Left P τ B a e w c d v) := by
 unfold val at h; simp only [ho] at h
 unfold aes at h
 split at h
 ·rename_i x t hx ht
  obtain ⟨args⟩ := args; obtain ⟨ts⟩ := ts
  simp only at hx ht; subst hx; subst ht
  obtain ⟨b1, hb, g⟩ := ck h
  clear h
  obtain ⟨q, hq⟩ := hb.slot hs
  have hrun : ∀ n : Int, (Builtin.len_ #[t] o.type #[a.eval x]).run P w = .ok (goInt n) w → (execOp a.eval o).run P w = .ok (.value (goInt n)) w := fun n hn => by
   simp only [execOp, ho, resolve, invoke, builtin, Sem.run_bind, Sem.run_pure, Result.andThen_ok, List.map_toArray, List.map_cons, List.map_nil, hn]
  unfold aj1 at g
  split at g
  ·rename_i hti
   obtain ⟨s, e1, g⟩ := ac1 g
   subst e1; cases g
   have hk : P.underlying t = some .string := ((hT t _ hti).kind).1
   obtain ⟨bs, h1, rfl⟩ := gu hq
   have : bs.size = bs.data.toList.length := by simp
   exact bq (u := goInt bs.data.toList.length) (hrun _ (by simp [Builtin.len_, cq hk, h1])) (Rep.int _ _)
  ·rename_i hti
   obtain ⟨ti, hte, g⟩ := ja g
   obtain ⟨l, hl, g⟩ := rh g
   cases g
   obtain ⟨b, cap, h1, _⟩ := gz (hq.isL hl)
   exact bq (u := goInt l.length) (hrun _ (by simp [Builtin.len_, cq (tg hT hti), h1])) (Rep.int _ _)
  ·rename_i hti
   cases g
   have hk : P.underlying t = some (.array _ _) := (hT t _ hti).kind
   exact bq (u := goInt _) (hrun _ (by simp [Builtin.len_, cq hk])) (Rep.int _ _)
  ·cases g
 ·cases h
theorem anu {mx : Bool} {args : Array Operand} {ts : Array TypeId} (ho : o.op = .call ⟨.builtin (aa mx .max .min), args, ts⟩) (hs : ax τ B w c (aj a) e) (h : z6 mx e ⟨.builtin (aa mx .max .min), args, ts⟩ some = some v) : ej P o a w (Left P τ B a e w c d v) := by
 unfold z6 at h
 split at h
 ·rename_i x y hx
  obtain ⟨args⟩ := args
  simp only at hx; subst hx
  obtain ⟨b1, hb, g1⟩ := ck h
  clear h
  obtain ⟨q, hq⟩ := hb.slot hs
  obtain ⟨b2, hb2, g⟩ := ck g1
  clear g1
  obtain ⟨q2, hq2⟩ := hb2.slot hs
  unfold aj2 at g
  split at g
  ·cases g
   have h1 := fb hq
   have h2 := fb hq2
   cases mx
   ·refine bq (u := .int _ (min _ _)) ?_ (Rep.int _ _)
    simp only [execOp, ho, aa, resolve, invoke, builtin, Builtin.min_, Sem.run_bind, Sem.run_pure, Result.andThen_ok, List.map_toArray, List.map_cons, List.map_nil, h1, h2, List.foldlM_cons, List.foldlM_nil, Builtin.min2]
    congr 3; omega
   ·refine bq (u := .int _ (max _ _)) ?_ (Rep.int _ _)
    simp only [execOp, ho, aa, resolve, invoke, builtin, Builtin.max_, Sem.run_bind, Sem.run_pure, Result.andThen_ok, List.map_toArray, List.map_cons, List.map_nil, h1, h2, List.foldlM_cons, List.foldlM_nil, Builtin.max2]
    congr 3; omega
  ·cases g
 ·cases h
end
end Go.Proofs.YtmdimhcjogjcgaaGreatDoor.Abs
