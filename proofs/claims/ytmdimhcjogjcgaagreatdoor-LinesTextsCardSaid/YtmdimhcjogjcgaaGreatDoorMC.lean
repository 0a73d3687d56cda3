/- Structs and slices that are made; fields of a value; calls of functions. -/
import Derived.Test.YtmdimhcjogjcgaaGreatDoorMB
import Derived.Laws.Tables
import Derived.Great.BuildSlice
set_option linter.unusedVariables false
set_option linter.unusedSimpArgs false
set_option linter.unusedSectionVars false
set_option linter.deprecated false
set_option linter.unnecessarySimpa false
namespace Go.Proofs.YtmdimhcjogjcgaaGreatDoor.Abs
open Go.RowKit
section
variable {P : Program} {τ : Tab} {B : Nat} {w : World} {c : Cls} {a : Act} {e : Env} {o : Oper} {d : Nat} {v : AV} {call : Nat → List AV → Option AV}
theorem sim_part (hT : TabOK P τ) {t z off : Nat} {cs : List AV} {vs : Array Value} (hz : cs.length = z) (hv : vs.size = z)
    (hr : ∀ (j : Nat) (x : AV) (u : Value), cs[j]? = some x → vs[j]? = some u → Rep w c u x) (h : loadElem τ t z cs off some = some v) :
    ∃ u, (part t vs off).run P w = .ok u w ∧ PlainR w c u v := by
  have hin : ∀ {sz : Nat}, off + sz ≤ z → ∀ (l : List AV), l.length = sz → (∀ j, j < sz → l[j]? = cs[off + j]?) → AggR w c (.agg (vs.extract off (off + sz))) sz l := fun {sz} hle l hl hj => by
    refine ⟨_, rfl, by simp [hv]; omega, hl, fun j x u hx hu => ?_⟩
    have hjl : j < sz := by rw [← hl]; exact (List.getElem?_eq_some_iff.1 hx).1
    rw [hj j hjl] at hx
    rw [Array.getElem?_extract] at hu
    split at hu
    · exact hr _ x u hx hu
    · cases hu
  unfold loadElem at h
  split at h
  · rename_i fs sz bb zz hti
    have ha : (isAgg t).run P w = .ok true w := agg_of hT hti
    have hsz : (sizeOf t).run P w = .ok sz w := size_of hT hti
    cases hb : (Nat.beq off 0 && Nat.beq z sz)
    · rw [hb] at h
      obtain ⟨l, hl, hj, g⟩ := getCs_inv h
      cases g
      have hle : off + sz ≤ z := by
        have hp : 0 < sz := (hT t _ hti).pos
        have := hj (sz - 1) (by omega)
        rw [List.getElem?_eq_getElem (by omega)] at this
        have := (List.getElem?_eq_some_iff.1 this.symm).1
        omega
      exact ⟨.agg (vs.extract off (off + sz)), by simp [part, ha, hsz], hin hle l hl hj⟩
    · rw [hb] at h; cases h
      simp only [Bool.and_eq_true] at hb
      obtain rfl := Nat.eq_of_beq_eq_true hb.1
      obtain rfl := Nat.eq_of_beq_eq_true hb.2
      exact ⟨.agg (vs.extract 0 (0 + z)), by simp [part, ha, hsz], hin (by omega) cs hz (fun j _ => by rw [Nat.zero_add])⟩
  · rename_i nn el sz bb zz hti
    obtain ⟨hb, g⟩ := guardK_inv h
    cases g
    have ha : (isAgg t).run P w = .ok true w := agg_of hT hti
    have hsz : (sizeOf t).run P w = .ok sz w := size_of hT hti
    simp only [Bool.and_eq_true] at hb
    obtain rfl := Nat.eq_of_beq_eq_true hb.1
    obtain rfl := Nat.eq_of_beq_eq_true hb.2
    exact ⟨.agg (vs.extract 0 (0 + z)), by simp [part, ha, hsz], hin (by omega) cs hz (fun j _ => by rw [Nat.zero_add])⟩
  · rename_i hns hna
    obtain ⟨x, hx, g⟩ := getC_inv h
    obtain ⟨v', hcst, g⟩ := cast_inv g
    cases g
    have hlt : off < vs.size := by rw [hv, ← hz]; exact (List.getElem?_eq_some_iff.1 hx).1
    have hvx : vs[off]? = some vs[off] := by simp [hlt]
    refine ⟨vs[off], ?_, (hr _ _ _ hx hvx).plain hcst⟩
    obtain ⟨_, ti, hti, hm⟩ := hcst
    have ha := agg_of (w := w) hT hti
    have hf : (isAgg t).run P w = .ok false w := by
      obtain ⟨k, sz, bb, zz⟩ := ti
      cases k <;> first
        | exact ha
        | exact absurd hti (hns _ _ _ _)
        | exact absurd hti (hna _ _ _ _ _)
        | exact hm.elim
    simp [part, hf, hvx]
theorem sim_field (hT : TabOK P τ) {t f : Nat} {x : Operand} (ho : o.op = .field t x f) (hs : SRel τ B w c (slots a) e) (h : val τ call e o some = some v) : Does P o a w (Left P τ B a e w c d v) := by
  unfold val at h; simp only [ho] at h
  obtain ⟨b1, hb, g1⟩ := opnd_inv h
  clear h
  obtain ⟨q, hq⟩ := hb.slot hs
  obtain ⟨ti, hti, g2⟩ := szOf_inv g1
  clear g1
  obtain ⟨cs, e1, g3⟩ := asC_inv g2
  clear g2
  subst e1
  obtain ⟨fs, s, b, z, off, ft, hti', hf, g⟩ := fieldAt_inv g3
  clear g3
  obtain ⟨F, fd, fi, hF, hg, rfl, rfl, h1, h2, _⟩ := field_of hT hti' hf
  obtain ⟨vs, hu, h3, h4, h5⟩ := hq
  obtain ⟨u, h6, h7⟩ := sim_part hT h4 h3 (fun j x u => h5 j x u) g
  refine does_same (u := u) ?_ h7.slot
  simp [execOp, ho, Instr.field, run_under hF, hg, hu, asAgg, h6]

/-! ### What is filled in -/
def CR (w : World) (c : Cls) (cells : Array Value) (z : List AV) : Prop := cells.size = z.length ∧ ∀ (j : Nat) (u : Value) (x : AV), cells[j]? = some u → z[j]? = some x → Rep w c u x
def putAt (cells : Array Value) (off : Nat) (l : List (Value × Nat)) : Array Value := l.foldl (fun cs (x : Value × Nat) => cs.setIfInBounds (off + x.2) x.1) cells
theorem putAt_size (off : Nat) : ∀ (l : List (Value × Nat)) (cells : Array Value), (putAt cells off l).size = cells.size
  | [], _ => rfl
  | x :: l, cells => by rw [show putAt cells off (x :: l) = putAt (cells.setIfInBounds (off + x.2) x.1) off l from rfl, putAt_size off l]; simp
theorem putAt_get (off : Nat) : ∀ (l : List Value) (n : Nat) (cells : Array Value) (k : Nat), off + n + l.length ≤ cells.size →
    (putAt cells off (l.zipIdx n))[k]? = if off + n ≤ k ∧ k < off + n + l.length then l[k - (off + n)]? else cells[k]?
  | [], n, cells, k, _ => by simp [putAt]; intro h1 h2; omega
  | x :: l, n, cells, k, h => by
    simp only [List.length_cons] at h
    rw [List.zipIdx_cons, show putAt cells off ((x, n) :: l.zipIdx (n + 1)) = putAt (cells.setIfInBounds (off + n) x) off (l.zipIdx (n + 1)) from rfl,
      putAt_get off l (n + 1) _ k (by simp; omega)]
    by_cases h1 : off + n = k
    · subst h1
      rw [if_neg (by omega), if_pos (by simp)]
      simp [show off + n < cells.size by omega]
    · by_cases h2 : off + (n + 1) ≤ k ∧ k < off + (n + 1) + l.length
      · rw [if_pos h2, if_pos (by simp only [List.length_cons]; omega)]
        rw [show k - (off + n) = (k - (off + (n + 1))) + 1 by omega]; simp
      · rw [if_neg h2, if_neg (by simp only [List.length_cons]; omega)]
        rw [Array.getElem?_setIfInBounds_ne h1]
theorem splice_get (z cs : List AV) (off k : Nat) (h : off + cs.length ≤ z.length) : (splice z off cs)[k]? = if off ≤ k ∧ k < off + cs.length then cs[k - off]? else z[k]? := by
  unfold splice
  have hl : (z.take off).length = off := by simp; omega
  by_cases h1 : k < off
  · rw [List.getElem?_append_left (by omega), List.getElem?_take, if_pos h1, if_neg (by omega)]
  · rw [List.getElem?_append_right (by omega), hl]
    by_cases h2 : k - off < cs.length
    · rw [List.getElem?_append_left h2, if_pos (by omega)]
    · rw [List.getElem?_append_right (by omega), List.getElem?_drop, if_neg (by omega)]
      congr 1; omega
theorem splice_len (z cs : List AV) (off : Nat) (h : off + cs.length ≤ z.length) : (splice z off cs).length = z.length := by simp [splice]; omega
theorem CR.put {cells : Array Value} {z : List AV} {off sz : Nat} {u : Value} {cs : List AV} (h : CR w c cells z) (hc : CellsR w c sz u cs) (hle : off + sz ≤ z.length) :
    CR w c (putAt cells off u.cells.toList.zipIdx) (splice z off cs) := by
  have h1 : u.cells.toList.length = sz := by simp [hc.size]
  refine ⟨by rw [putAt_size, splice_len _ _ _ (by rw [hc.len]; exact hle)]; exact h.1, fun j y x hy hx => ?_⟩
  rw [putAt_get off _ 0 cells j (by rw [h1, h.1]; omega), h1] at hy
  rw [splice_get _ _ _ _ (by rw [hc.len]; exact hle), hc.len] at hx
  simp only [Nat.add_zero] at hy
  by_cases hj : off ≤ j ∧ j < off + sz
  · rw [if_pos hj] at hy hx
    exact hc.rep _ x y hx (by simpa using hy)
  · rw [if_neg hj] at hy hx
    exact h.2 j y x hy hx
theorem fill_cons {place : Nat → Option (Nat × Nat)} {cells : Array Value} {i off sz : Nat} {u : Value} {r : List (Nat × Value)} (hp : place i = some (off, sz)) (hs : u.cells.size = sz) (hle : off + sz ≤ cells.size) :
    Instr.fill place cells ((i, u) :: r) = Instr.fill place (putAt cells off u.cells.toList.zipIdx) r := by
  have e : u.cells.zipIdx.foldl (fun cs (x : Value × Nat) => cs.setIfInBounds (off + x.2) x.1) cells = putAt cells off u.cells.toList.zipIdx := by
    rw [← Array.foldl_toList, Array.toList_zipIdx]; rfl
  simp only [Instr.fill, hp, hs, ne_eq, not_true_eq_false, Nat.not_lt.2 hle]
  rw [← e]; simp
theorem sim_fillF (hT : TabOK P τ) (hs : SRel τ B w c (slots a) e) {fs : List (Nat × Nat)} {S : Nat} {place : Nat → Option (Nat × Nat)}
    (hpl : ∀ (i off t : Nat) (ti : TI), fs[i]? = some (off, t) → τ.T t = some ti → place i = some (off, ti.sz) ∧ off + ti.sz ≤ S) :
    ∀ (ps : List (Nat × Operand)) (cells : Array Value) (z r : List AV), z.length = S → CR w c cells z → fillF τ fs e ps z some = some r →
      ∃ cells', Instr.fill place cells (ps.map fun (i, x) => (i, a.eval x)) = some cells' ∧ CR w c cells' r ∧ r.length = S ∧ ∀ k, isSet τ fs ps k = false → cells'[k]? = cells[k]?
  | [], cells, z, r, hz, hc, h => by cases h; exact ⟨cells, rfl, hc, hz, fun _ _ => rfl⟩
  | (i, x) :: ps, cells, z, r, hz, hc, h => by
    unfold fillF at h
    split at h
    · cases h
    · rename_i off t hf
      obtain ⟨b1, hb, g1⟩ := opnd_inv h
      obtain ⟨q, hq⟩ := hb.slot hs
      obtain ⟨v', hcst, g2⟩ := cast_inv g1
      obtain ⟨ti, hti, g3⟩ := szOf_inv g2
      obtain ⟨cs, hcs, g4⟩ := cellsOf_inv g3
      have hr := plain_cells hT hti hcst (hq.cst hcst) hcs
      obtain ⟨hp, hle⟩ := hpl i off t ti hf hti
      obtain ⟨cells', h1, h2, h3, h4⟩ := sim_fillF hT hs hpl ps (putAt cells off (a.eval x).cells.toList.zipIdx) (splice z off cs) r (by rw [splice_len _ _ _ (by rw [hr.len]; omega), hz]) (hc.put hr (by omega)) g4
      refine ⟨cells', by rw [List.map_cons, fill_cons hp hr.size (by rw [hc.1]; omega)]; exact h1, h2, h3, fun k hk => ?_⟩
      simp only [isSet, Bool.or_eq_false_iff] at hk
      have hcv : (Nat.ble off k && Nat.blt k (off + ti.sz)) = false := by
        have := hk.1
        unfold covers at this
        rw [hf] at this
        simp only [hti] at this
        exact this
      have hno : ¬ (off ≤ k ∧ k < off + ti.sz) := fun hh => by
        have ht : (Nat.ble off k && Nat.blt k (off + ti.sz)) = true := by
          rw [Bool.and_eq_true]
          exact ⟨Nat.ble_eq_true_of_le hh.1, Nat.ble_eq_true_of_le hh.2⟩
        rw [ht] at hcv; cases hcv
      have hsz' : (a.eval x).cells.toList.length = ti.sz := by simp [hr.size]
      rw [h4 k hk.2, putAt_get off _ 0 cells k (by rw [hsz', hc.1]; omega), hsz', if_neg (by omega)]
theorem nilM_at {fs : List (Nat × Nat)} {ps : List (Nat × Operand)} : ∀ (z : List AV) (n j q : Nat), (j, q) ∈ nilM τ fs ps n z → ∃ l, n ≤ j ∧ z[j - n]? = some (.own q l) ∧ isSet τ fs ps j = false
  | [], n, j, q, h => by cases h
  | y :: r, n, j, q, h => by
    have up : (j, q) ∈ nilM τ fs ps (n + 1) r → ∃ l, n ≤ j ∧ (y :: r)[j - n]? = some (.own q l) ∧ isSet τ fs ps j = false := fun h => by
      obtain ⟨l, h1, h2, h3⟩ := nilM_at r (n + 1) j q h
      refine ⟨l, by omega, ?_, h3⟩
      rw [show j - n = (j - (n + 1)) + 1 by omega, List.getElem?_cons_succ]; exact h2
    cases y <;> first
      | exact up h
      | skip
    rename_i sz l
    simp only [nilM] at h
    cases hb : isSet τ fs ps n with
    | true => rw [hb] at h; exact up h
    | false =>
      rw [hb] at h
      rcases List.mem_cons.1 h with h | h
      · cases h
        exact ⟨l, Nat.le_refl _, by rw [Nat.sub_self]; rfl, hb⟩
      · exact up h
theorem sim_build (hT : TabOK P τ) {t : Nat} {ps : Array (Nat × Operand)} (ho : o.op = .build t ps) (hs : SRel τ B w c (slots a) e) (h : val τ call e o some = some v) : Does P o a w (Left P τ B a e w c d v) := by
  unfold val at h; simp only [ho] at h
  obtain ⟨fs, s, b, z, hti, h⟩ := structK_inv h
  obtain ⟨i, zv, h1, h2, h3, h4, h5, h6, h7⟩ := (hT t _ hti).info
  obtain ⟨F, hF, hfs, hsz⟩ := struct_of hT hti
  have hzl : (z.map frz).length = s := by simpa using h6
  have hcr : CR w c zv.cells (z.map frz) := by
    refine ⟨by rw [h5, hzl], fun j u x hu hx => ?_⟩
    rw [List.getElem?_map] at hx
    cases hy : z[j]? with
    | none => rw [hy] at hx; cases hx
    | some y =>
      rw [hy] at hx; cases hx
      have := h7 j u y hu hy
      cases y <;> first
        | exact rep_frz (this w c)
        | skip
      rename_i s l
      cases l with
      | nil => have : u = .slice none 0 0 := this; subst this; exact .nil _
      | cons y l => have := this w c; cases this
  have hplaces : F.toList.mapM (fun f => (P.info? f.type).map fun i => (f.offset, i.size)) = some (F.toList.map fun f => (f.offset, ((P.info? f.type).map (·.size)).getD 0)) := by
    have : ∀ (l : List Field), (∀ f ∈ l, ∃ fi, P.info? f.type = some fi) → l.mapM (fun f => (P.info? f.type).map fun i => (f.offset, i.size)) = some (l.map fun f => (f.offset, ((P.info? f.type).map (·.size)).getD 0)) := by
      intro l
      induction l with
      | nil => intro _; rfl
      | cons f l ih =>
        intro hl
        obtain ⟨fi, hfi⟩ := hl f (by simp)
        simp [List.mapM_cons, hfi, ih fun g hg => hl g (by simp [hg])]
    exact this _ fun f hf => let ⟨fi, h, _⟩ := hsz f hf; ⟨fi, h⟩
  have hbuilt : P.built t (ps.map fun (i, x) => (i, a.eval x)).toList = Instr.fill ((F.toList.map fun f => (f.offset, ((P.info? f.type).map (·.size)).getD 0)).toArray[·]?) zv.cells (ps.toList.map fun (i, x) => (i, a.eval x)) := by
    unfold Program.built
    simp only [h1, hF, h4, hplaces]
    congr 1
    simp
  have hpl : ∀ (i off t : Nat) (ti : TI), fs[i]? = some (off, t) → τ.T t = some ti → ((F.toList.map fun f => (f.offset, ((P.info? f.type).map (·.size)).getD 0)).toArray[i]?) = some (off, ti.sz) ∧ off + ti.sz ≤ s := fun i off t ti hf hti => by
    obtain ⟨fi', hfi', hfs'⟩ := info_of hT hti
    rw [hfs, List.getElem?_map] at hf
    cases hx : F.toList[i]? with
    | none => rw [hx] at hf; cases hf
    | some g =>
      rw [hx] at hf; cases hf
      obtain ⟨fi, k1, k2, k3⟩ := hsz g (List.mem_of_getElem? hx)
      rw [hfi'] at k1; cases k1
      refine ⟨?_, by omega⟩
      simp only [List.getElem?_toArray, List.getElem?_map, hx, Option.map_some, hfi', Option.getD_some, hfs']
  have hG : ∀ g : List AV → Option AV, fillF τ fs e ps.toList (z.map frz) g = (fillF τ fs e ps.toList (z.map frz) some).bind g := fun g => by rw [fillF_b]; rfl
  cases hfl : fillF τ fs e ps.toList (z.map frz) some with
  | none => rw [hG, hfl] at h; cases h
  | some r =>
    rw [hG, hfl] at h
    have h : litK (nilM τ fs ps.toList 0 z) s r some = some v := h
    obtain ⟨cells', k1, k2, k3, k4⟩ := sim_fillF hT hs hpl ps.toList zv.cells _ r hzl hcr hfl
    have hA : AggR w c (.agg cells') s r := ⟨cells', rfl, by rw [k2.1, k3], k3, fun j x u hx hu => k2.2 j u x hu hx⟩
    have hN : ∀ j q, (j, q) ∈ nilM τ fs ps.toList 0 z → ∃ vs : Array Value, Value.agg cells' = .agg vs ∧ vs[j]? = some (.slice none 0 0) := fun j q hm => by
      obtain ⟨l, _, m2, m3⟩ := nilM_at z 0 j q hm
      rw [Nat.sub_zero] at m2
      refine ⟨cells', rfl, ?_⟩
      rw [k4 j m3]
      have hj : j < zv.cells.size := by rw [h5, ← h6]; exact (List.getElem?_eq_some_iff.1 m2).1
      have hz := h7 j zv.cells[j] _ (Array.getElem?_eq_getElem hj) m2
      rw [Array.getElem?_eq_getElem hj]
      generalize zv.cells[j] = u0 at hz ⊢
      cases l with
      | nil => exact congrArg some hz
      | cons y l => have := hz w c; cases this
    have hrun : (execOp a.eval o).run P w = .ok (.value (.agg cells')) w := by
      simp only [execOp, ho, Sem.run_bind, run_build w t _ cells' (by rw [hbuilt]; exact k1), Result.andThen_ok, Sem.run_pure]
    generalize hm : nilM τ fs ps.toList 0 z = mm at *
    cases mm with
    | nil => cases h; exact does_same (u := .agg cells') hrun hA
    | cons x mm => cases h; exact does_same (u := .agg cells') hrun ⟨hA, hN⟩
end
section
variable {P : Program} {τ : Tab} {B : Nat} {w : World} {c : Cls} {a : Act} {e : Env} {o : Oper} {d : Nat} {v : AV} {call : Nat → List AV → Option AV}
/-- A row of cells, sz to an element. -/
def CL (w : World) (c : Cls) (sz : Nat) (cells : Array Value) (L : List (List AV)) : Prop :=
  cells.size = L.length * sz ∧ (∀ (i : Nat) (cs : List AV), L[i]? = some cs → cs.length = sz) ∧
  ∀ (i j : Nat) (cs : List AV) (x : AV) (u : Value), L[i]? = some cs → cs[j]? = some x → cells[i * sz + j]? = some u → Rep w c u x
theorem mul_in {i n sz j : Nat} (hi : i < n) (hj : j < sz) : i * sz + j < n * sz := by
  have : (i + 1) * sz ≤ n * sz := Nat.mul_le_mul_right sz hi
  rw [Nat.add_mul] at this; omega
theorem CL.put {sz : Nat} {cells : Array Value} {L : List (List AV)} {i : Nat} {u : Value} {cs : List AV} (h : CL w c sz cells L) (hi : i < L.length) (hc : CellsR w c sz u cs) :
    CL w c sz (putAt cells (i * sz) u.cells.toList.zipIdx) (L.set i cs) := by
  have h1 : u.cells.toList.length = sz := by simp [hc.size]
  have hle : (i + 1) * sz ≤ L.length * sz := Nat.mul_le_mul_right sz hi
  rw [Nat.add_mul] at hle
  refine ⟨by rw [putAt_size, List.length_set]; exact h.1, fun k cs' hk => ?_, fun k j cs' x y hk hx hy => ?_⟩
  · rw [List.getElem?_set] at hk
    by_cases hki : i = k
    · subst hki
      rw [if_pos rfl, if_pos hi] at hk
      cases hk; exact hc.len
    · rw [if_neg hki] at hk
      exact h.2.1 k cs' hk
  · rw [putAt_get _ _ 0 cells _ (by rw [h1, h.1]; omega), h1] at hy
    simp only [Nat.add_zero] at hy
    rw [List.getElem?_set] at hk
    by_cases hki : i = k
    · subst hki
      rw [if_pos rfl, if_pos hi] at hk
      cases hk
      have hj : j < sz := by rw [← hc.len]; exact (List.getElem?_eq_some_iff.1 hx).1
      rw [if_pos (by omega), show i * sz + j - i * sz = j by omega] at hy
      exact hc.rep j x y hx (by simpa using hy)
    · rw [if_neg hki] at hk
      have hj : j < sz := by rw [← h.2.1 k cs' hk]; exact (List.getElem?_eq_some_iff.1 hx).1
      have hout : ¬ (i * sz ≤ k * sz + j ∧ k * sz + j < i * sz + sz) := fun ⟨p1, p2⟩ => by
        rcases Nat.lt_or_gt_of_ne hki with hlt | hlt
        · have := Nat.mul_le_mul_right sz (Nat.succ_le_of_lt hlt)
          rw [Nat.succ_mul] at this; omega
        · have := Nat.mul_le_mul_right sz (Nat.succ_le_of_lt hlt)
          rw [Nat.succ_mul] at this; omega
      rw [if_neg hout] at hy
      exact h.2.2 k j cs' x y hk hx hy
theorem repl_get {β : Type} {n k : Nat} {x y : β} (h : (List.replicate n x)[k]? = some y) : k < n ∧ x = y := by
  obtain ⟨h1, h2⟩ := List.getElem?_eq_some_iff.1 h
  exact ⟨by simpa using h1, by simpa using h2⟩
theorem sim_fillL (hT : TabOK P τ) (hs : SRel τ B w c (slots a) e) {t : Nat} {ti : TI} (hti : τ.T t = some ti) :
    ∀ (ps : List (Nat × Operand)) (cells : Array Value) (L r : List (List AV)), CL w c ti.sz cells L → fillL τ t e ps L some = some r →
      ∃ cells', Instr.fill (fun i => some (i * ti.sz, ti.sz)) cells (ps.map fun (i, x) => (i, a.eval x)) = some cells' ∧ CL w c ti.sz cells' r ∧ r.length = L.length
  | [], cells, L, r, hc, h => by cases h; exact ⟨cells, rfl, hc, rfl⟩
  | (i, x) :: ps, cells, L, r, hc, h => by
    unfold fillL at h
    obtain ⟨hi, g0⟩ := guardK_inv h
    have hi : i < L.length := by simpa using hi
    obtain ⟨b1, hb, g1⟩ := opnd_inv g0
    obtain ⟨q, hq⟩ := hb.slot hs
    obtain ⟨v', hcst, g2⟩ := cast_inv g1
    obtain ⟨ti', hti', g3⟩ := szOf_inv g2
    rw [hti] at hti'; cases hti'
    obtain ⟨cs, hcs, g4⟩ := cellsOf_inv g3
    have hr := plain_cells hT hti hcst (hq.cst hcst) hcs
    have hle : (i + 1) * ti.sz ≤ L.length * ti.sz := Nat.mul_le_mul_right ti.sz hi
    rw [Nat.add_mul] at hle
    obtain ⟨cells', h1, h2, h3⟩ := sim_fillL hT hs hti ps (putAt cells (i * ti.sz) (a.eval x).cells.toList.zipIdx) (L.set i cs) r (hc.put hi hr) g4
    exact ⟨cells', by rw [List.map_cons, fill_cons rfl hr.size (by rw [hc.1]; omega)]; exact h1, h2, by rw [h3, List.length_set]⟩
theorem run_buildSlice0 {t e sz : Nat} {parts : Array (Nat × Value)} {cells : Array Value} (hu : P.underlying t = some (.slice e)) (hs : (sizeOf e).run P w = .ok sz w)
    (h : Instr.fill (fun i => some (i * sz, sz)) #[] parts.toList = some cells) :
    (Instr.buildSlice t 0 parts).run P w = .ok (.slice (some ⟨w.heap.size, 0, none⟩) 0 0) (w.alloc (.cells cells e)) := by
  have h0 : (Array.range 0).map (fun _ => (default : Value)) = #[] := by apply Array.ext'; simp
  simp [Instr.buildSlice, run_under hu, hs, newRow, h0, h]
theorem sim_buildSlice (hT : TabOK P τ) {t n : Nat} {ps : Array (Nat × Operand)} (ho : o.op = .buildSlice t n ps) (hs : SRel τ B w c (slots a) e) (h : val τ call e o some = some v) : Does P o a w (Left P τ B a e w c d v) := by
  unfold val at h; simp only [ho] at h
  obtain ⟨t', s, b, z, hti, h⟩ := elemK_inv h
  obtain ⟨ti, hte, h⟩ := infoK_inv h
  obtain ⟨hn, h⟩ := guardK_inv h
  have hn : n * ti.sz ≤ 16777216 := by simpa using hn
  obtain ⟨i, zv, h1, h2, h3, h4, h5, h6, h7⟩ := (hT t' _ hte).info
  have hpos := (hT t' _ hte).pos
  have hrow : CL w c ti.sz ((Array.range (n * ti.sz)).map (zv.cells[· % zv.cells.size]!)) (List.replicate n (ti.zero.map frz)) := by
    refine ⟨by simp, fun k cs hk => ?_, fun k j cs x u hk hx hu => ?_⟩
    · obtain ⟨_, rfl⟩ := repl_get hk
      simpa using h6
    · obtain ⟨hkn, rfl⟩ := repl_get hk
      rw [List.getElem?_map] at hx
      cases hy : ti.zero[j]? with
      | none => rw [hy] at hx; cases hx
      | some y =>
        rw [hy] at hx; cases hx
        have hj : j < ti.sz := by rw [← h6]; exact (List.getElem?_eq_some_iff.1 hy).1
        have hlt := mul_in hkn hj
        have hu' : zv.cells[j]? = some u := by
          rw [Array.getElem?_map, Array.getElem?_range, if_pos hlt] at hu
          simp only [Option.map_some, Option.some.injEq] at hu
          rw [h5, Nat.mul_comm, Nat.mul_add_mod, Nat.mod_eq_of_lt hj] at hu
          rw [← hu]
          simp [h5, hj]
        have := h7 j u y hu' hy
        cases y <;> first
          | exact rep_frz (this w c)
          | skip
        rename_i s l
        cases l with
        | nil => have : u = .slice none 0 0 := this; subst this; exact .nil _
        | cons y l => have := this w c; cases this
  cases hfl : fillL τ t' e ps.toList (List.replicate n (ti.zero.map frz)) some with
  | none => rw [show (fillL τ t' e ps.toList (List.replicate n (ti.zero.map frz)) fun l => some (AV.own ti.sz l)) = (fillL τ t' e ps.toList (List.replicate n (ti.zero.map frz)) some).bind fun l => some (AV.own ti.sz l) by rw [fillL_b]; rfl, hfl] at h; cases h
  | some r =>
    rw [show (fillL τ t' e ps.toList (List.replicate n (ti.zero.map frz)) fun l => some (AV.own ti.sz l)) = (fillL τ t' e ps.toList (List.replicate n (ti.zero.map frz)) some).bind fun l => some (AV.own ti.sz l) by rw [fillL_b]; rfl, hfl] at h
    cases h
    obtain ⟨cells', k1, k2, k3⟩ := sim_fillL hT hs hte ps.toList _ _ r hrow hfl
    rw [List.length_replicate] at k3
    have hx := ext_alloc w c (.cells cells' t') (.own (n * ti.sz) (.slot d))
    refine .value (u := .slice (some ⟨w.heap.size, 0, none⟩) n n) (w' := w.alloc (.cells cells' t')) ?_ ⟨_, hx, ?_, .inr ⟨w.heap.size, n, cells', t', by rw [k3], hs.base, alloc_new .., by rw [k2.1, k3], ?_, by rw [k3]; exact Nat.le_refl _, by rw [k3]; simp [updC]⟩⟩
    · have hlist : (ps.map fun (i, x) => (i, a.eval x)).toList = ps.toList.map fun (i, x) => (i, a.eval x) := by simp
      by_cases hz : n = 0
      · subst hz
        have hz0 : (Array.range (0 * ti.sz)).map (zv.cells[· % zv.cells.size]!) = #[] := by rw [Nat.zero_mul]; apply Array.ext'; simp
        rw [hz0] at k1
        rw [← hlist] at k1
        simp only [execOp, ho, Sem.run_bind, run_buildSlice0 (slice_of hT hti) (size_of hT hte) k1, Result.andThen_ok, Sem.run_pure]
      · have hpos' : ¬ n * ti.sz = 0 := fun h => by rcases Nat.mul_eq_zero.1 h with h | h <;> omega
        have := run_buildSlice (P := P) w t t' n (ps.map fun (i, x) => (i, a.eval x)) cells' i zv (slice_of hT hti) h1 h4 (by rw [h2]; omega) (by rw [h2]; exact hpos') (by rw [h2, hlist]; exact k1)
        simp only [execOp, ho, Sem.run_bind, this, Result.andThen_ok, Sem.run_pure]
    · cases hr0 : r with
      | nil => rw [hr0] at k3; rw [show n = 0 by simpa using k3.symm]; exact .emp _ _ _
      | cons y r' =>
        rw [← hr0]
        have := Rep.sl (w := w.alloc (.cells cells' t')) (c := updC c w.heap.size (.own (n * ti.sz) (.slot d))) w.heap.size 0 n ti.sz r (fun i j => cells'.getD (i * ti.sz + j) undef) (by omega) k2.2.1
          (fun i j hi hj => by
            have := mul_in hi hj
            rw [cell_of (alloc_new w _)]; simp [k2.1, this])
          (fun i j hi hj => by
            have := mul_in hi hj
            show stab _ _ _
            unfold stab updC
            simp only [if_true, Nat.zero_add]
            rw [k3] at this; exact this)
          (fun i j cs x hcs hx' => by
            have hi := (List.getElem?_eq_some_iff.1 hcs).1
            have hj := (List.getElem?_eq_some_iff.1 hx').1
            rw [k2.2.1 i cs hcs] at hj
            have hlt := mul_in hi hj
            refine Rep.ext hx (k2.2.2 i j cs x _ hcs hx' ?_)
            simp [k2.1, hlt])
        rw [k3] at this; exact this
    · unfold maxLen; have : n * 1 ≤ n * ti.sz := Nat.mul_le_mul_left n hpos; omega
end
section
variable {P : Program} {τ : Tab} {B : Nat} {w : World} {c : Cls} {a : Act} {e : Env} {o : Oper} {d : Nat} {v : AV} {call : Nat → List AV → Option AV} {α : Type} {r : α}
theorem castsA_inv : ∀ {ts : List Nat} {l : List AV} {k : List AV → Option α}, castsA τ ts l k = some r →
    ∃ l', l'.length = l.length ∧ (∀ (i : Nat) (x x' : AV), l[i]? = some x → l'[i]? = some x' → ∃ t, Cst τ t x x') ∧ k l' = some r
  | [], [], k, h => ⟨[], rfl, fun i x x' hx => by simp at hx, h⟩
  | [], _ :: _, _, h => by cases h
  | _ :: _, [], _, h => by cases h
  | t :: ts, x :: l, k, h => by
    obtain ⟨x', hx, g⟩ := cast_inv (show cast τ t x _ = some r from h)
    obtain ⟨l', h1, h2, g'⟩ := castsA_inv g
    refine ⟨x' :: l', by simp [h1], fun i y y' hy hy' => ?_, g'⟩
    cases i with
    | zero => simp only [List.getElem?_cons_zero, Option.some.injEq] at hy hy'; subst hy; subst hy'; exact ⟨t, hx⟩
    | succ i => simp only [List.getElem?_cons_succ] at hy hy'; exact h2 i y y' hy hy'
/-- A part of a result, as the caller takes it. -/
def RC (τ : Tab) (x x' : AV) : Prop := (∃ t, Cst τ t x x') ∨ ∃ sz l, x = .own sz l ∧ x' = .own sz l
theorem castR_inv {q : Bool} {t : Nat} {x : AV} {k : AV → Option α} (h : castR τ q t x k = some r) : ∃ x', RC τ x x' ∧ k x' = some r := by
  cases q with
  | false => obtain ⟨x', hx, g⟩ := cast_inv h; exact ⟨x', .inl ⟨t, hx⟩, g⟩
  | true =>
    obtain ⟨_, _, _, _, i, _, _, g⟩ := sliceSz_inv h
    obtain ⟨l, rfl, g'⟩ := asO_inv g
    exact ⟨_, .inr ⟨_, _, rfl, rfl⟩, g'⟩
theorem retK_inv {q : List Bool} {t : Nat} {x : AV} {k : AV → Option α} (h : retK τ q t x k = some r) :
    (∃ x', RC τ x x' ∧ k x' = some r) ∨ ∃ l l', x = .tup l ∧ l'.length = l.length ∧ (∀ (i : Nat) (y y' : AV), l[i]? = some y → l'[i]? = some y' → RC τ y y') ∧ k (.tup l') = some r := by
  unfold retK at h
  split at h
  · refine .inr ?_
    split at h
    · obtain ⟨rfl, g⟩ := asT0_inv h
      exact ⟨[], [], rfl, rfl, fun i y y' hy => by simp at hy, g⟩
    · obtain ⟨x0, x1, rfl, g⟩ := asT2_inv h
      obtain ⟨y0, h0, g⟩ := castR_inv g
      obtain ⟨y1, h1, g⟩ := castR_inv g
      refine ⟨_, [y0, y1], rfl, rfl, fun i y y' hy hy' => ?_, g⟩
      rcases i with _ | _ | i <;> simp at hy hy' <;> subst hy <;> subst hy' <;> assumption
    · obtain ⟨x0, x1, x2, rfl, g⟩ := asT3_inv h
      obtain ⟨y0, h0, g⟩ := castR_inv g
      obtain ⟨y1, h1, g⟩ := castR_inv g
      obtain ⟨y2, h2, g⟩ := castR_inv g
      refine ⟨_, [y0, y1, y2], rfl, rfl, fun i y y' hy hy' => ?_, g⟩
      rcases i with _ | _ | _ | i <;> simp at hy hy' <;> subst hy <;> subst hy' <;> assumption
    · obtain ⟨x0, x1, x2, x3, rfl, g⟩ := asT4_inv h
      obtain ⟨y0, h0, g⟩ := castR_inv g
      obtain ⟨y1, h1, g⟩ := castR_inv g
      obtain ⟨y2, h2, g⟩ := castR_inv g
      obtain ⟨y3, h3, g⟩ := castR_inv g
      refine ⟨_, [y0, y1, y2, y3], rfl, rfl, fun i y y' hy hy' => ?_, g⟩
      rcases i with _ | _ | _ | _ | i <;> simp at hy hy' <;> subst hy <;> subst hy' <;> assumption
    · cases h
  · exact .inl (castR_inv h)

/-! ### Whose the results are -/
def ren (B' : Nat) (c : Cls) (g : Nat → Hold) : Cls := fun b => match c b with
  | .own st (.ret i) => if B' ≤ b then .own st (g i) else .own st (.ret i)
  | k => k
theorem ren_stab {B' : Nat} {c : Cls} {g : Nat → Hold} (b i : Nat) : stab (ren B' c g) b i ↔ stab c b i := by
  unfold stab ren
  cases hk : c b with
  | frz => simp
  | box => simp
  | own st hd =>
    cases hd with
    | ret i => by_cases hB : B' ≤ b <;> simp [hB]
    | slot | cell | comp => exact Iff.rfl
theorem ren_old {B' : Nat} {c : Cls} {g : Nat → Hold} {b : Nat} (h : b < B') : ren B' c g b = c b := by
  unfold ren
  cases hk : c b with
  | frz => rfl
  | box => rfl
  | own st hd =>
    cases hd <;> simp
    omega
theorem ext_ren (B' : Nat) (w : World) (c : Cls) (g : Nat → Hold) : Ext B' w c w (ren B' c g) :=
  ⟨rfl, rfl, rfl, Nat.le_refl _, fun b hb _ => ⟨rfl, ren_old hb⟩, fun b i v h hs => ⟨h, (ren_stab b i).2 hs⟩⟩
theorem OwnR.ren {B B' : Nat} {w : World} {c : Cls} {i sz : Nat} {u : Value} {l : List (List AV)} {g : Nat → Hold} (h : OwnR B' w c (.ret i) u sz l) (hB : B ≤ B') : OwnR B w (ren B' c g) (g i) u sz l := by
  refine ⟨h.1.ext (ext_ren B' w c g), h.2.imp id ?_⟩
  rintro ⟨b, cap, vs, ty, h1, h2, h3, h4, h5, h6, h7⟩
  exact ⟨b, cap, vs, ty, h1, Nat.le_trans hB h2, h3, h4, h5, h6, by simp [Abs.ren, h7, h2]⟩
theorem PlainR.cst {u : Value} {t : Nat} {x x' : AV} (h : PlainR w c u x) (hc : Cst τ t x x') : PlainR w c u x' :=
  (h.slot (B := 0) (T := slots ⟨#[], []⟩) (e := fun _ => .undef) (d := 0)).cst hc
theorem PartR.either {B : Nat} {hd : Hold} {u : Value} {x : AV} (h : PartR B w c hd u x) : (∃ sz l, x = .own sz l ∧ OwnR B w c hd u sz l) ∨ PlainR w c u x := by
  cases x <;> first | exact .inr h | exact .inl ⟨_, _, rfl, h⟩
theorem PartR.rc {B B' : Nat} {i : Nat} {u : Value} {x x' : AV} {g : Nat → Hold} (h : PartR B' w c (.ret i) u x) (hB : B ≤ B') (hc : RC τ x x') : PartR B w (ren B' c g) (g i) u x' := by
  rcases hc with ⟨t, hc⟩ | ⟨sz, l, rfl, rfl⟩
  · have hp : PlainR w c u x' := by
      rcases h.either with ⟨sz, l, rfl, ho⟩ | hp
      case inr => exact hp.cst hc
      obtain ⟨⟨b, e1, e2⟩ | ⟨kd, n, e1, e2⟩ | ⟨s, e1, e2⟩ | ⟨sz', l', hl, rfl⟩ | ⟨sz, cs, e1, e2⟩ | ⟨f, cs, e1, e2⟩, _⟩ := hc <;> first
        | cases e1
        | skip
      rcases hl with ⟨e1, _⟩ | e1 | e1 | ⟨q, e1⟩ | ⟨q, o, e1⟩ <;> cases e1
      exact ho.1
    have hp := hp.ext (ext_ren B' w c g)
    cases x' <;> first | exact hp.elim | exact hp
  · exact OwnR.ren h hB
theorem PartR.slotR {u : Value} {x : AV} (h : PartR B w c (.slot d) u x) : SlotR B w c (slots a) e d u x := by
  cases x <;> first | exact h | exact PlainR.slot h
theorem does_callsTo {f : Nat} {vs : Array Value} {R : Value → World → Prop} (h : (execOp a.eval o).run P w = (callFunc f vs).run P w) (hC : CallsTo P f vs w R) : Does P o a w R := by
  rcases hC with ⟨h1, h2⟩ | ⟨u, w', h1, h2⟩
  · exact .enter (h.trans h1) h2
  · exact .value (h.trans h1) h2
theorem run_call {x : Operand} {args : Array Operand} {ts : Array TypeId} {f : Nat} {vs : Array Value} (ho : o.op = .call ⟨.value x, args, ts⟩) (hx : a.eval x = .func (.func f) #[] vs) :
    (execOp a.eval o).run P w = (callFunc f (args.map a.eval ++ vs)).run P w := by
  simp only [execOp, ho, resolve, Deferred.ofValue, hx, Sem.run_bind, Sem.run_pure, Result.andThen_ok, invoke]
  simp
theorem sim_call (hcall : ∀ f l r, call f l = some r → PC P τ f l r) {x : Operand} {args : Array Operand} {ts : Array TypeId} (ho : o.op = .call ⟨.value x, args, ts⟩) (hs : SRel τ B w c (slots a) e)
    (h : val τ call e o some = some v) : Does P o a w (Left P τ B a e w c d v) := by
  unfold val at h; simp only [ho] at h
  obtain ⟨b1, hb, g⟩ := opnd_inv h
  clear h
  obtain ⟨q, hq⟩ := hb.slot hs
  obtain ⟨f, caps, e1, g⟩ := asF_inv g
  subst e1
  obtain ⟨vs, hx, hvs, hcaps⟩ := rep_fn hq
  obtain ⟨l, hl, hargs, g⟩ := opnds_inv g
  obtain ⟨l', hl', hcst, g⟩ := castsA_inv g
  unfold callK at g
  cases hr : call f (l' ++ caps) with
  | none => rw [hr] at g; cases g
  | some r =>
  rw [hr] at g
  have g : retK τ (τ.RO f) o.type r some = some v := g
  refine does_callsTo (run_call ho hx) ?_
  have hlen : (args.map a.eval).size = l'.length := by simp [hl', hl]
  have hpc := hcall f _ r hr w c (args.map a.eval ++ vs) hs.g (by simp [hl', hl, hvs]) ?_
  · have hmono : ∀ (R : Value → World → Prop) {R' : Value → World → Prop}, CallsTo P f (args.map a.eval ++ vs) w R → (∀ u w', R u w' → R' u w') → CallsTo P f (args.map a.eval ++ vs) w R' := by
      rintro R R' (⟨h1, h2⟩ | ⟨u, w', h1, h2⟩) hm
      · exact .inl ⟨h1, h2.mono fun x w' ⟨v, e1, e2⟩ => ⟨v, e1, hm _ _ e2⟩⟩
      · exact .inr ⟨u, w', h1, hm _ _ h2⟩
    refine hmono _ hpc ?_
    rintro u w' ⟨c', hext, hres⟩
    rcases retK_inv g with ⟨x', hrc, g⟩ | ⟨p, p', e1, hp1, hp2, g⟩
    · cases g
      have hpart : PartR w.heap.size w' c' (.ret 0) u r := by
        cases r <;> first
          | exact hres
          | skip
        rename_i tl
        rcases hrc with ⟨t, hc⟩ | ⟨sz, l, e1, e2⟩
        · obtain ⟨⟨b, e1, e2⟩ | ⟨kd, n, e1, e2⟩ | ⟨s, e1, e2⟩ | ⟨sz', l', hl, e2⟩ | ⟨sz, cs, e1, e2⟩ | ⟨f, cs, e1, e2⟩, _⟩ := hc <;> first
            | cases e1
            | skip
          rcases hl with ⟨e1, _⟩ | e1 | e1 | ⟨q, e1⟩ | ⟨q, o, e1⟩ <;> cases e1
        · cases e1
      exact ⟨ren w.heap.size c' fun _ => .slot d, hext.trans (ext_ren ..), (PartR.rc (g := fun _ => .slot d) hpart hs.base hrc).slotR⟩
    · cases g
      subst e1
      obtain ⟨us, hu, hus, hparts⟩ := hres
      refine ⟨ren w.heap.size c' fun i => .comp d i, hext.trans (ext_ren ..), us, hu, by rw [hus, hp1], fun i y' u' hy' hu' => ?_⟩
      have hi : i < p.length := by rw [← hus]; exact (Array.getElem?_eq_some_iff.1 hu').1
      have hy : p[i]? = some p[i] := List.getElem?_eq_getElem hi
      exact PartR.rc (g := fun i => .comp d i) (hparts i _ u' hy hu') hs.base (hp2 i _ _ hy hy')
  · intro i u y hu hy
    by_cases hi : i < l'.length
    · rw [Array.getElem?_append_left (by rw [hlen]; exact hi)] at hu
      rw [List.getElem?_append_left hi] at hy
      have hi2 : i < l.length := by omega
      have hy0 : l[i]? = some l[i] := List.getElem?_eq_getElem hi2
      have hx0 : args.toList[i]? = some args.toList[i] := List.getElem?_eq_getElem (by omega)
      obtain ⟨t, hc⟩ := hcst i _ _ hy0 hy
      obtain ⟨q, hq⟩ := (hargs i _ _ hx0 hy0).slot hs
      have : u = a.eval args.toList[i] := by
        rw [Array.getElem?_map] at hu
        rw [← Array.getElem?_toList, hx0] at hu
        simpa using hu.symm
      rw [this]
      exact .inl (hq.cst hc)
    · rw [Array.getElem?_append_right (by rw [hlen]; omega), hlen] at hu
      rw [List.getElem?_append_right (by omega)] at hy
      exact .inr (hcaps _ u y hu hy)
end
section
variable {P : Program} {τ : Tab} {B : Nat} {w : World} {c : Cls} {a : Act} {e : Env} {o : Oper} {d : Nat} {v : AV} {call : Nat → List AV → Option AV}
theorem val_sim (hT : TabOK P τ) (hcall : ∀ f l r, call f l = some r → PC P τ f l r) (hs : SRel τ B w c (slots a) e) (h : val τ call e o some = some v) : Does P o a w (Left P τ B a e w c d v) := by
  cases ho : o.op
  case move x => exact sim_move ho hs h
  case assign x => exact sim_assign ho hs h
  case pick x y z => exact sim_pick ho hs h
  case alloc t => exact sim_alloc hT ho hs h
  case box t x => exact sim_box hT ho hs h
  case build t ps => exact sim_build hT ho hs h
  case buildSlice t n ps => exact sim_buildSlice hT ho hs h
  case load t x => exact sim_load hT ho hs h
  case fieldAddr t x f => exact sim_fieldAddr hT ho hs h
  case field t x f => exact sim_field hT ho hs h
  case indexAddr t x i => exact sim_indexAddr hT ho hs h
  case index t x i => exact sim_index_str hT ho hs h
  case slice t x lo hi mx =>
    cases mx with
    | none => exact sim_slice hT ho hs h
    | some m => unfold val at h; simp only [ho] at h; cases h
  case binOp op t x y t' => exact sim_binOp hT ho hs h
  case unOp op t x => exact sim_unOp ho hs h
  case convert src dst x => exact sim_convert hT ho hs h
  case extract x i => exact sim_extract ho hs h
  case nilCheck x => exact sim_nilCheck ho hs h
  case makeFunc fn first caps =>
    cases fn
    case func f => exact sim_makeFunc ho hs h
    all_goals (unfold val at h; simp only [ho] at h; cases h)
  case call cl =>
    obtain ⟨callee, args, ts⟩ := cl
    cases callee
    case value f => exact sim_call hcall ho hs h
    case builtin b =>
      cases b
      case len => exact sim_len hT ho hs h
      case min => exact sim_min (mx := false) ho hs (by unfold val at h; simp only [ho] at h; exact h)
      case max => exact sim_min (mx := true) ho hs (by unfold val at h; simp only [ho] at h; exact h)
      all_goals (unfold val at h; simp only [ho] at h; cases h)
    case invoke => unfold val at h; simp only [ho] at h; cases h
  all_goals (unfold val at h; simp only [ho] at h; cases h)

/-! ### Whom a block serves -/
def Live (e : Env) : Hold → Prop
  | .slot d => ∃ z l, e d = .own z l
  | .cell d j => ∃ z cs m s l, e d = .boxv z cs m ∧ ovr m j = some (.own s l)
  | .comp d i => ∃ l z r, e d = .tup l ∧ l[i]? = some (.own z r)
  | .ret _ => False
def LiveK (e : Env) : Kind → Prop
  | .frz => False
  | .own _ h => Live e h
  | .box d => ∃ z cs m, e d = .boxv z cs m
/-- Blocks that serve nobody may change. -/
def Chg (e : Env) (w : World) (c : Cls) (w' : World) (c' : Cls) : Prop := ∀ b, b < w.heap.size → LiveK e (c b) → w'.heap[b]? = w.heap[b]? ∧ c' b = c b
theorem heap_lt {w : World} {b : Nat} {ob : Obj} (h : w.heap[b]? = some ob) : b < w.heap.size := (Array.getElem?_eq_some_iff.1 h).1
theorem OwnR.change {w' : World} {c' : Cls} {h : Hold} {u : Value} {sz : Nat} {l : List (List AV)} (hx : Ext B w c w' c') (hc : Chg e w c w' c') (hl : Live e h) (ho : OwnR B w c h u sz l) : OwnR B w' c' h u sz l := by
  refine ⟨ho.1.ext hx, ho.2.imp id ?_⟩
  rintro ⟨b, cap, vs, ty, h1, h2, h3, h4, h5, h6, h7⟩
  obtain ⟨k1, k2⟩ := hc b (heap_lt h3) (by rw [h7]; exact hl)
  exact ⟨b, cap, vs, ty, h1, h2, k1.trans h3, h4, h5, h6, k2.trans h7⟩
theorem SlotR.change {w' : World} {c' : Cls} {T : Nat → Value} {u : Value} {x : AV} (hs : SRel τ B w c T e) (hx : Ext B w c w' c') (hc : Chg e w c w' c') (he : e d = x) (h : SlotR B w c T e d u x) : SlotR B w' c' T e d u x := by
  cases x <;> first
    | exact h
    | exact AggR.ext hx h
    | exact Rep.ext hx h
    | skip
  case lit z l m => exact ⟨AggR.ext hx h.1, h.2⟩
  case own z l => exact OwnR.change hx hc ⟨z, l, he⟩ h
  case boxv z cs m =>
    obtain ⟨b, vs, ty, h1, h2, h3, h4, h5, h6, h7, h8, h9⟩ := h
    obtain ⟨k1, k2⟩ := hc b (heap_lt h3) (by rw [h4]; exact ⟨z, cs, m, he⟩)
    refine ⟨b, vs, ty, h1, h2, k1.trans h3, k2.trans h4, h5, h6, fun j y u p q r => (h7 j y u p q r).ext hx, fun j y u p q => ?_, h9⟩
    have := h8 j y u p q
    cases y <;> first
      | exact Rep.ext hx this
      | exact OwnR.change hx hc ⟨z, cs, m, _, _, he, p⟩ this
  case vw q z l => exact ⟨h.1.ext hx, h.2⟩
  case vwc q off z l =>
    refine ⟨h.1.ext hx, fun z' cs m s l' h1 h2 => ?_⟩
    obtain ⟨b, h3, h4⟩ := h.2 z' cs m s l' h1 h2
    have hq := hs.slot q
    rw [h1] at hq
    obtain ⟨b', vs, ty, g1, g2, g3, g4, _⟩ := hq
    rw [h3] at g1; cases g1
    obtain ⟨k1, k2⟩ := hc b (heap_lt g3) (by rw [g4]; exact ⟨z', cs, m, h1⟩)
    exact ⟨b, h3, by rw [cell_heap (w := w) k1]; exact h4⟩
  case tup l =>
    obtain ⟨vs, h1, h2, h3⟩ := h
    refine ⟨vs, h1, h2, fun i y u p q => ?_⟩
    rcases (h3 i y u p q).either with ⟨s, l', rfl, ho⟩ | hp
    · exact OwnR.change hx hc ⟨l, _, _, he, p⟩ ho
    · have hp := hp.ext hx
      cases y <;> first | exact hp.elim | exact hp
theorem SRel.change {w' : World} {c' : Cls} {T : Nat → Value} (hs : SRel τ B w c T e) (hx : Ext B w c w' c') (hc : Chg e w c w' c') : SRel τ B w' c' T e :=
  ⟨Nat.le_trans hs.base hx.size, hs.g.ext hx, fun d => (hs.slot d).change hs hx hc rfl⟩
end
/-- An operation, with what it leaves of the frame. -/
def Steps (P : Program) (o : Oper) (a : Act) (w : World) (R : Act → World → Prop) : Prop := ∀ (K : Act → World → Prop) (Q : Exit → Act → World → Prop), (∀ a' w', R a' w' → K a' w') → o.wp P a w K Q
def After (τ : Tab) (B : Nat) (a : Act) (w : World) (c : Cls) (e' : Env) : Act → World → Prop := fun a' w' => ∃ c', Ext B w c w' c' ∧ SRel τ B w' c' (slots a') e' ∧ a'.tmps.size = a.tmps.size ∧ a'.defers = a.defers
/-- A new holder. -/
def reh (B : Nat) (c : Cls) (h h' : Hold) : Cls := fun b => match c b with
  | .own st g => if B ≤ b ∧ g = h then .own st h' else .own st g
  | k => k
section
variable {P : Program} {τ : Tab} {B : Nat} {w : World} {c : Cls} {a : Act} {e : Env} {o : Oper} {d : Nat} {v : AV} {call : Nat → List AV → Option AV}
theorem reh_stab {h h' : Hold} (b i : Nat) : stab (reh B c h h') b i ↔ stab c b i := by
  unfold stab reh
  cases hk : c b with
  | frz => simp
  | box => simp
  | own st g => by_cases hg : B ≤ b ∧ g = h <;> simp [hg]
theorem ext_reh (B : Nat) (w : World) (c : Cls) (h h' : Hold) : Ext B w c w (reh B c h h') := by
  refine ⟨rfl, rfl, rfl, Nat.le_refl _, fun b hb _ => ⟨rfl, ?_⟩, fun b i v hv hs => ⟨hv, (reh_stab b i).2 hs⟩⟩
  unfold reh
  cases hk : c b with
  | frz => rfl
  | box => rfl
  | own st g => simp; omega
theorem chg_reh {h h' : Hold} (hn : ¬ Live e h) : Chg e w c w (reh B c h h') := fun b _ hl => by
  refine ⟨rfl, ?_⟩
  unfold reh
  cases hk : c b with
  | frz => rfl
  | box => rfl
  | own st g =>
    rw [hk] at hl
    have hg : g ≠ h := fun hg => hn (hg ▸ hl)
    simp [hg]
theorem OwnR.reh {h h' : Hold} {u : Value} {sz : Nat} {l : List (List AV)} (ho : OwnR B w c h u sz l) : OwnR B w (Abs.reh B c h h') h' u sz l := by
  refine ⟨ho.1.ext (ext_reh B w c h h'), ho.2.imp id ?_⟩
  rintro ⟨b, cap, vs, ty, h1, h2, h3, h4, h5, h6, h7⟩
  exact ⟨b, cap, vs, ty, h1, h2, h3, h4, h5, h6, by simp [Abs.reh, h7, h2]⟩
theorem upd_self (T : Nat → Value) (d : Nat) : upd T d (T d) = T := by funext i; unfold upd; split <;> simp_all
theorem slots_put {u : Value} (h : d < a.tmps.size) : slots (a.put (some d) u) = upd (slots a) d u := by
  funext i
  unfold slots upd Act.put
  by_cases hi : i = d
  · subst hi; simp [h]
  · simp [hi, Array.getElem?_setIfInBounds_ne (Ne.symm hi)]
theorem put_size {dst : Option Nat} {u : Value} : (a.put dst u).tmps.size = a.tmps.size := by cases dst <;> simp [Act.put]
theorem put_defers {dst : Option Nat} {u : Value} : (a.put dst u).defers = a.defers := by cases dst <;> rfl
theorem Does.steps {R : Value → World → Prop} {R' : Act → World → Prop} (h : Does P o a w R) (hR : ∀ u w', R u w' → R' (a.put o.dst u) w') : Steps P o a w R' := fun K Q hK => h K Q fun u w' hu => hK _ _ (hR u w' hu)
/-- The same value put back. -/
theorem SRel.again {T : Nat → Value} {e' : Env} (h : SRel τ B w c T e) (hv : SlotR B w c T e d (T d) v) (hh : holds v = false) (he : e' = Abs.set e d v) : SRel τ B w c T e' := by
  have := h.put (e' := Abs.set e d v) hv (set_same ..) (fun s hs => by rw [set_ne _ _ hs]; exact .refl _) (fun h => by rw [hh] at h; cases h)
  rw [upd_self] at this
  rw [he]; exact this
theorem step_val (h : Does P o a w (Left P τ B a e w c (o.dst.getD 0) v)) (hs : SRel τ B w c (slots a) e) (hd : ∀ d, o.dst = some d → d < a.tmps.size) : Steps P o a w (After τ B a w c (setH e o.dst v)) := by
  refine h.steps fun u w' hu => ?_
  obtain ⟨c', h1, h2⟩ := hu
  cases hdst : o.dst with
  | none => exact ⟨c', h1.mono hs.base, hs.alloc h1, put_size, put_defers⟩
  | some d =>
    rw [hdst] at h2
    refine ⟨c', h1.mono hs.base, ?_, put_size, put_defers⟩
    rw [slots_put (hd d hdst)]
    exact (hs.alloc h1).setH h2
theorem step_own {e1 : Env} {h : Hold} {u : Value} {z : Nat} {l : List (List AV)} (hs : SRel τ B w c (slots a) e1) (hn : ¬ Live e1 h) (ho : OwnR B w c h u z l) (hd : d < a.tmps.size)
    (hrun : (execOp a.eval o).run P w = .ok (.value u) w) (hdst : o.dst = some d) : Steps P o a w (After τ B a w c (Abs.set (kill d e1) d (.own z l))) := by
  refine (Does.value (R := fun u' w' => u' = u ∧ w' = w) hrun ⟨rfl, rfl⟩).steps fun u' w' hu => ?_
  obtain ⟨rfl, rfl⟩ := hu
  refine ⟨reh B c h (.slot d), ext_reh .., ?_, put_size, put_defers⟩
  rw [hdst, slots_put hd]
  exact (hs.change (ext_reh B w' c h (.slot d)) (chg_reh hn)).setH (v := .own z l) ho.reh
theorem step_plain {u : Value} (hs : SRel τ B w c (slots a) e) (hv : SlotR B w c (slots a) e d u v) (hh : holds v = false) (hd : d < a.tmps.size)
    (hrun : (execOp a.eval o).run P w = .ok (.value u) w) (hdst : o.dst = some d) : Steps P o a w (After τ B a w c (Abs.set e d v)) := by
  refine (Does.value (R := fun u' w' => u' = u ∧ w' = w) hrun ⟨rfl, rfl⟩).steps fun u' w' hu => ?_
  obtain ⟨rfl, rfl⟩ := hu
  refine ⟨c, Ext.refl .., ?_, put_size, put_defers⟩
  rw [hdst, slots_put hd]
  have := hs.setH hv
  rw [setH_false hh] at this
  exact this
theorem cl_SlotR {T : Nat → Value} {u : Value} {x : AV} (h : SlotR B w c T e d u x) : SlotR B w c T e d u (cl x) := by
  cases x <;> first
    | exact h
    | exact h.1
    | trivial
theorem cl_holds {x : AV} (h : holds x = false) : holds (cl x) = false := by cases x <;> first | rfl | exact h
theorem sim_give {res : List Nat} {x : Operand} {b : AV} {e' : Env} (ho : o.op = .assign x) (hs : SRel τ B w c (slots a) e) (hb : OpV e x b) (hd : d < a.tmps.size) (hdst : o.dst = some d)
    (h : giveK τ res e o.type d x b some = some e') : Steps P o a w (After τ B a w c e') := by
  have hrun : (execOp a.eval o).run P w = .ok (.value (a.eval x)) w := by simp [execOp, ho]
  obtain ⟨q0, hq⟩ := hb.slot hs
  unfold giveK at h
  split at h
  · rename_i s z l
    cases h
    have hes : e s = .own z l := by
      obtain ⟨_, ⟨t, h1, h2⟩ | ⟨k, h1, _⟩ | ⟨f, h1, _⟩⟩ := hb <;> cases h1
      exact unlit_own h2
    have hso := hs.slot s
    rw [hes] at hso
    refine step_own (h := .slot s) (u := slots a s) (hs.weak fun t => ?_) ?_ hso hd hrun hdst
    · by_cases ht : t = s
      · subst ht; rw [set_same, hes]; exact .own ..
      · rw [set_ne _ _ ht]; exact .refl _
    · rintro ⟨z', l', hx⟩
      rw [set_same] at hx; cases hx
  · rename_i s q z l
    have hes : e s = .vw q z l := by
      obtain ⟨_, ⟨t, h1, h2⟩ | ⟨k, h1, _⟩ | ⟨f, h1, _⟩⟩ := hb <;> cases h1
      exact unlit_vw h2
    have hso := hs.slot s
    rw [hes] at hso
    split at h
    · rename_i z' l' hr heq
      cases h
      have hqo := hs.slot q
      rw [heq] at hqo
      have hsq : slots a s = slots a q := hso.2 z' l' heq
      have hqs : q ≠ s := fun hh => by rw [hh, hes] at heq; cases heq
      have h1 : SRel τ B w c (slots a) (Abs.set e q (.sl z' l')) := hs.weak fun t => by
        by_cases ht : t = q
        · subst ht; rw [set_same, heq]; exact .own ..
        · rw [set_ne _ _ ht]; exact .refl _
      have h2 : SRel τ B w c (slots a) (Abs.set (Abs.set e q (.sl z' l')) s (.sl z' l')) := h1.again (by rw [hsq]; exact hqo.1) rfl rfl
      refine step_own (h := .slot q) (u := slots a q) h2 ?_ hqo hd (by rw [hrun]; exact congrArg (fun u => Result.ok (Next.value u) w) hsq) hdst
      rintro ⟨z'', l'', hx⟩
      rw [set_ne _ _ hqs, set_same] at hx; cases hx
    · cases h
      exact step_plain hs (v := .sl z l) hso.1 rfl hd hrun hdst
  · obtain ⟨_, _, _, _, i, _, _, g⟩ := sliceSz_inv h
    cases g
    have hq : Rep w c _ .nil := hq
    generalize a.eval x = u at *
    cases hq
    refine step_own (h := .ret 0) (u := .slice none 0 0) (c := c) (e1 := e) hs (fun hh => hh) ⟨.nil _, .inl ⟨rfl, rfl⟩⟩ hd hrun hdst
  · cases h
  · cases h
  · cases h
  · cases h
  · cases h
    rename_i h1 h2 h3 h4 h5 h6 h7
    have hq' : SlotR B w c (slots a) e d (a.eval x) (cl b) := by
      have := cl_SlotR hq
      cases b <;> first
        | exact this
        | (exfalso; first | exact h2 _ _ rfl | exact h3 _ _ _ rfl | exact h4 _ _ rfl | exact h5 _ rfl)
    refine step_plain hs hq' (cl_holds ?_) hd hrun hdst
    cases b <;> first
      | rfl
      | (exfalso; first | exact h2 _ _ rfl | exact h3 _ _ _ rfl)
end
section
variable {P : Program} {τ : Tab} {B : Nat} {w : World} {c : Cls} {a : Act} {e : Env} {o : Oper} {d : Nat} {v : AV} {call : Nat → List AV → Option AV}
theorem sim_partT {x : Operand} {s i : Nat} {e' : Env} (ho : o.op = .extract (.tmp s) i) (hs : SRel τ B w c (slots a) e) (hd : ∀ d, o.dst = some d → d < a.tmps.size)
    (h : partT e o.dst s i some (e s) = some e') : Steps P o a w (After τ B a w c e') := by
  cases hes : e s <;> rw [hes] at h <;> first
    | cases h
    | skip
  rename_i l
  obtain ⟨y, hy, g⟩ := getC_inv h
  have hso := hs.slot s
  rw [hes] at hso
  obtain ⟨vs, h1, h2, h3⟩ := hso
  have hlt : i < l.length := (List.getElem?_eq_some_iff.1 hy).1
  have hvi : vs[i]? = some vs[i] := by simp [h2, hlt]
  have hp := h3 i y _ hy hvi
  have hrun : (execOp a.eval o).run P w = .ok (.value vs[i]) w := by
    have : a.eval (.tmp s) = .tuple vs := h1
    simp [execOp, ho, this, Instr.extract, h2, hlt]
  split at g
  · rename_i z y'
    cases g
    have h1' : SRel τ B w c (slots a) (Abs.set e s (.tup (l.set i (.sl z y')))) := by
      refine hs.again (d := s) (v := .tup (l.set i (.sl z y'))) ⟨vs, h1, by rw [h2, List.length_set], fun j q u hq hu => ?_⟩ rfl rfl
      rw [List.getElem?_set] at hq
      by_cases hij : i = j
      · subst hij
        rw [if_pos rfl, if_pos hlt] at hq
        cases hq
        rw [hvi] at hu; cases hu
        exact hp.1
      · rw [if_neg hij] at hq
        exact h3 j q u hq hu
    cases hdst : o.dst with
    | none =>
      refine (Does.value (R := fun u' w' => u' = vs[i] ∧ w' = w) hrun ⟨rfl, rfl⟩).steps fun u' w' hu => ?_
      obtain ⟨rfl, rfl⟩ := hu
      exact ⟨c, Ext.refl .., by rw [hdst]; exact h1', put_size, put_defers⟩
    | some d =>
      refine step_own (h := .comp s i) h1' ?_ hp (hd d hdst) hrun hdst
      rintro ⟨l', z', r, hx, hx'⟩
      rw [set_same] at hx; cases hx
      rw [List.getElem?_set, if_pos rfl, if_pos hlt] at hx'
      cases hx'
  · obtain ⟨hne, g⟩ := nz_inv g
    cases g
    rename_i hno
    have hpl : PlainR w c vs[i] y := by
      rcases hp.either with ⟨z, l', rfl, _⟩ | hp
      · exact absurd rfl (hno z l')
      · exact hp
    cases hdst : o.dst with
    | none =>
      refine (Does.value (R := fun u' w' => u' = vs[i] ∧ w' = w) hrun ⟨rfl, rfl⟩).steps fun u' w' hu => ?_
      obtain ⟨rfl, rfl⟩ := hu
      exact ⟨c, Ext.refl .., by rw [hdst]; exact hs, put_size, put_defers⟩
    | some d =>
      refine step_plain hs hpl.slot ?_ (hd d hdst) hrun hdst
      cases y <;> first | rfl | exact (hpl : False).elim

/-! ### Rows -/
/-- Cells in a row, sz to an element. -/
def CLL (w : World) (c : Cls) (sz : Nat) (us : List Value) (L : List (List AV)) : Prop :=
  us.length = L.length * sz ∧ (∀ (i : Nat) (cs : List AV), L[i]? = some cs → cs.length = sz) ∧
  ∀ (i j : Nat) (cs : List AV) (x : AV) (u : Value), L[i]? = some cs → cs[j]? = some x → us[i * sz + j]? = some u → Rep w c u x
theorem CLL.ext {w' : World} {c' : Cls} {sz : Nat} {us : List Value} {L : List (List AV)} (hx : Ext B w c w' c') (h : CLL w c sz us L) : CLL w' c' sz us L :=
  ⟨h.1, h.2.1, fun i j cs x u p q r => (h.2.2 i j cs x u p q r).ext hx⟩
theorem CLL.append {sz : Nat} {us vs : List Value} {L M : List (List AV)} (h : CLL w c sz us L) (k : CLL w c sz vs M) : CLL w c sz (us ++ vs) (L ++ M) := by
  refine ⟨by simp [h.1, k.1, Nat.add_mul], fun i cs hi => ?_, fun i j cs x u hi hj hu => ?_⟩
  · by_cases hl : i < L.length
    · rw [List.getElem?_append_left hl] at hi; exact h.2.1 i cs hi
    · rw [List.getElem?_append_right (by omega)] at hi; exact k.2.1 _ cs hi
  · by_cases hl : i < L.length
    · rw [List.getElem?_append_left hl] at hi
      have hjs : j < sz := by rw [← h.2.1 i cs hi]; exact (List.getElem?_eq_some_iff.1 hj).1
      rw [List.getElem?_append_left (by rw [h.1]; exact mul_in hl hjs)] at hu
      exact h.2.2 i j cs x u hi hj hu
    · rw [List.getElem?_append_right (by omega)] at hi
      have hle : L.length * sz ≤ i * sz := Nat.mul_le_mul_right sz (by omega)
      rw [List.getElem?_append_right (by rw [h.1]; omega), h.1] at hu
      rw [show i * sz + j - L.length * sz = (i - L.length) * sz + j by rw [Nat.sub_mul]; omega] at hu
      exact k.2.2 _ j cs x u hi hj hu
/-- What a slice holds, cell by cell. -/
theorem cells_of_sl {u : Value} {sz : Nat} {l : List (List AV)} (h : Rep w c u (.sl sz l)) : ∃ bo cap us, u = .slice bo l.length cap ∧ l.length ≤ cap ∧ (bo = none → cap = 0) ∧ CLL w c sz us l ∧
    (∀ p, bo = some p → ∀ (k : Nat) (y : Value), us[k]? = some y → w.cell? (p.add k) = some y) ∧ ∀ p, bo = some p → 0 < l.length → p.spot = none := by
  obtain ⟨bo, cap, h1, h2, h3, h4⟩ := rep_sl h
  by_cases hl : 0 < l.length
  · obtain ⟨g, q, rfl, h5, f, h6, h7, h8⟩ := h4 hl
    refine ⟨_, cap, (List.range (l.length * sz)).map fun k => f (k / sz) (k % sz), h1, h2, h3, ⟨by simp, h5, fun i j cs x u hi hj hu => ?_⟩, fun p hp k y hy => ?_, fun p hp _ => by cases hp; rfl⟩
    · have hi' := (List.getElem?_eq_some_iff.1 hi).1
      have hj' : j < sz := by rw [← h5 i cs hi]; exact (List.getElem?_eq_some_iff.1 hj).1
      have hlt := mul_in hi' hj'
      rw [List.getElem?_map, List.getElem?_range hlt] at hu
      simp only [Option.map_some, Option.some.injEq] at hu
      rw [show (i * sz + j) / sz = i by rw [Nat.mul_comm, Nat.mul_add_div (by omega), Nat.div_eq_of_lt hj']; omega, show (i * sz + j) % sz = j by rw [Nat.mul_comm, Nat.mul_add_mod, Nat.mod_eq_of_lt hj']] at hu
      rw [← hu]; exact h8 i j cs x hi hj
    · cases hp
      have hk := (List.getElem?_eq_some_iff.1 hy).1
      simp only [List.length_map, List.length_range] at hk
      rw [List.getElem?_map, List.getElem?_range hk] at hy
      simp only [Option.map_some, Option.some.injEq] at hy
      have hsz : 0 < sz := Nat.pos_of_ne_zero fun h0 => by subst h0; omega
      rw [add_none, ← hy]
      have hd : k / sz * sz + k % sz = k := by rw [Nat.mul_comm]; exact Nat.div_add_mod k sz
      have := h6 (k / sz) (k % sz) ((Nat.div_lt_iff_lt_mul hsz).2 hk) (Nat.mod_lt _ hsz)
      rw [hd] at this; exact this
  · have : l = [] := List.eq_nil_of_length_eq_zero (by omega)
    subst this
    exact ⟨bo, cap, [], h1, h2, h3, ⟨by simp, fun i cs hi => by simp at hi, fun i j cs x u hi => by simp at hi⟩, fun p hp k y hy => by simp at hy, fun p hp h => by simp at h⟩
/-- A block that holds them. -/
theorem sl_of_cells {b cap sz : Nat} {vs : Array Value} {ty : TypeId} {fr : Nat × Nat} {us : List Value} {L : List (List AV)} (hb : w.heap[b]? = some (.cells vs ty fr)) (h : CLL w c sz us L) (hcap : L.length ≤ cap)
    (hus : ∀ (k : Nat) (u : Value), us[k]? = some u → vs[k]? = some u) (hst : ∀ k, k < L.length * sz → stab c b k) : Rep w c (.slice (some ⟨b, 0, none⟩) L.length cap) (.sl sz L) := by
  have hget : ∀ i j, i < L.length → j < sz → us[i * sz + j]? = some (us.getD (i * sz + j) undef) := fun i j hi hj => by
    have := mul_in hi hj
    simp [h.1, this]
  cases hL : L with
  | nil => exact .emp _ _ _
  | cons y r =>
    rw [← hL]
    refine Rep.sl b 0 cap sz L (fun i j => us.getD (i * sz + j) undef) hcap h.2.1 (fun i j hi hj => ?_) (fun i j hi hj => ?_) (fun i j cs x hi hj => ?_)
    · rw [cell_of hb, Nat.zero_add]; exact hus _ _ (hget i j hi hj)
    · rw [Nat.zero_add]; exact hst _ (mul_in hi hj)
    · have h1 := (List.getElem?_eq_some_iff.1 hi).1
      have h2 : j < sz := by rw [← h.2.1 i cs hi]; exact (List.getElem?_eq_some_iff.1 hj).1
      exact h.2.2 i j cs x _ hi hj (hget i j h1 h2)
/-- Memory that has grown, and a row of its own in what is new. -/
theorem fresh_row {w' : World} {el sz n : Nat} {u : Value} {us : List Value} {L : List (List AV)} {h : Hold} (hg : w.grownBy w' none) (ho : w'.ownsRow w.heap.size el sz u n us) (hn : n = L.length) (hc : CLL w c sz us L) :
    ∃ c', Ext w.heap.size w c w' c' ∧ OwnR w.heap.size w' c' h u sz L := by
  subst hn
  refine ⟨fun b => if w.heap.size ≤ b then .own (L.length * sz) h else c b, ?_⟩
  have hx : Ext w.heap.size w c w' (fun b => if w.heap.size ≤ b then .own (L.length * sz) h else c b) := by
    refine ⟨hg.os, hg.tape, hg.output, hg.size, fun b hb _ => ⟨hg.block b hb (by simp), by simp [Nat.not_le.2 hb]⟩, fun b i v hv hs => ?_⟩
    have hb := cell_lt hv
    refine ⟨by rw [cell_heap (w := w) (hg.block b hb (by simp))]; exact hv, by unfold stab at *; simpa [Nat.not_le.2 hb] using hs⟩
  refine ⟨hx, ?_⟩
  rcases ho.2 with ⟨rfl, h0⟩ | ⟨g, cap, cur, rfl, h1, h2, h3, h4, h5, h6⟩
  · have : L = [] := List.eq_nil_of_length_eq_zero h0
    subst this
    exact ⟨.nil _, .inl ⟨rfl, rfl⟩⟩
  · refine ⟨sl_of_cells h2 (hc.ext hx) h3 (fun k u hu => ?_) (fun k hk => by unfold stab; simpa [h1] using hk), .inr ⟨g, cap, cur, el, rfl, h1, h2, h5, h4, h3, by simp [h1]⟩⟩
    rw [← h6] at hu
    rw [List.getElem?_take] at hu
    split at hu
    · simpa using hu
    · cases hu
end
section
variable {P : Program} {τ : Tab} {B : Nat} {w : World} {c : Cls} {a : Act} {e : Env} {o : Oper} {d : Nat} {v : AV} {call : Nat → List AV → Option AV}
theorem CLL.one {sz : Nat} {us : List Value} {L : List (List AV)} (h : CLL w c sz us L) : ∀ u ∈ us, u.oneCell' = true := fun u hu => by
  obtain ⟨k, hk, rfl⟩ := List.getElem_of_mem hu
  have hk' : k < L.length * sz := by rw [← h.1]; exact hk
  have hsz : 0 < sz := Nat.pos_of_ne_zero fun h0 => by subst h0; omega
  have hi : k / sz < L.length := (Nat.div_lt_iff_lt_mul hsz).2 hk'
  have hj : k % sz < sz := Nat.mod_lt _ hsz
  have h1 : L[k / sz]? = some L[k / sz] := List.getElem?_eq_getElem hi
  have h2 := h.2.1 _ _ h1
  have h3 : (L[k / sz])[k % sz]? = some ((L[k / sz])[k % sz]'(by omega)) := List.getElem?_eq_getElem (by omega)
  refine rep_one (h.2.2 _ _ _ _ us[k] h1 h3 ?_)
  rw [Nat.mul_comm, Nat.div_add_mod]
  exact List.getElem?_eq_getElem hk
theorem OwnR.mono {B B' : Nat} {h : Hold} {u : Value} {sz : Nat} {l : List (List AV)} (ho : OwnR B' w c h u sz l) (hB : B ≤ B') : OwnR B w c h u sz l :=
  ⟨ho.1, ho.2.imp id fun ⟨b, cap, vs, ty, h1, h2, h3⟩ => ⟨b, cap, vs, ty, h1, Nat.le_trans hB h2, h3⟩⟩
theorem run_append_stay {t ty el : TypeId} {i : TypeInfo} {bo : Option Addr} {n cap : Nat} (ht : P.underlying t = some (.slice el)) (hi : P.info? el = some i) (hn : n ≤ cap) :
    (Builtin.append_ #[t, t] ty #[.slice bo n cap, .slice none 0 0]).run P w = .ok (.slice bo n cap) w := by
  cases bo <;> simp [Builtin.append_, run_underlying ht, sizeOf, typeInfo, hi, Builtin.lenOf, Builtin.firstCells, hn, storeCells]
theorem run_append_in {t ty el ty' : TypeId} {i : TypeInfo} {g n cap : Nat} {cur : Array Value} {p : Addr} {m k : Nat} {news : List Value} (ht : P.underlying t = some (.slice el)) (hi : P.info? el = some i)
    (hg : w.heap[g]? = some (.cells cur ty' (0, 0))) (hl : news.length = m * i.size) (hnews : ∀ (j : Nat) (u : Value), news[j]? = some u → w.cell? (p.add j) = some u) (h1 : ∀ u ∈ news, u.oneCell' = true)
    (hroom : n + m ≤ cap) (hfit : n * i.size + news.length ≤ cur.size) :
    (Builtin.append_ #[t, t] ty #[.slice (some ⟨g, 0, none⟩) n cap, .slice (some p) m k]).run P w =
      .ok (.slice (some ⟨g, 0, none⟩) (n + m) cap) (w.setRow g (cur.toList.take (n * i.size) ++ news ++ cur.toList.drop (n * i.size + news.length)).toArray) := by
  have hf := run_firstCells_some (P := P) w i.size m p m k news hl hnews
  have hst := run_storeCells_at P g (n * i.size) ty' news 0 cur w hg (by simpa using hfit) h1
  simp only [Nat.add_zero] at hst
  simp [Builtin.append_, run_underlying ht, sizeOf, typeInfo, hi, Builtin.lenOf, hroom, hf, Addr.add_lit, hst]
/-- What is appended to a row that one holds. -/
theorem append_core {e1 : Env} {H : Hold} {t ty el : TypeId} {i : TypeInfo} {z u u2 : Value} {sz : Nat} {l ys : List (List AV)} (hs : SRel τ B w c (slots a) e1) (hn : ¬ Live e1 H) (ho : OwnR B w c H u sz l) (hy : Rep w c u2 (.sl sz ys))
    (ht : P.underlying t = some (.slice el)) (hi : P.info? el = some i) (hz : i.zero = some z) (hsz : i.size = sz) (hzs : z.cells.size = sz) (hpos : 0 < sz) (hby : i.bytes ≤ 128) (hlim : l.length + ys.length ≤ lim) :
    ∃ v' w' c', (Builtin.append_ #[t, t] ty #[u, u2]).run P w = .ok v' w' ∧ Ext B w c w' c' ∧ SRel τ B w' c' (slots a) e1 ∧ OwnR B w' c' (.slot d) v' sz (l ++ ys) := by
  subst hsz
  have h63 : l.length + ys.length ≤ maxLen := by unfold maxLen; unfold lim at hlim; omega
  have hbytes : (l.length + ys.length) * i.bytes ≤ 140737488355328 := by
    have : (l.length + ys.length) * i.bytes ≤ lim * 128 := Nat.mul_le_mul hlim hby
    unfold lim at this; omega
  obtain ⟨bo, k, news, rfl, h1, h2, h3, h4, _⟩ := cells_of_sl hy
  have hone := h3.one
  cases bo with
  | none =>
    obtain rfl := h2 rfl
    have hys : ys = [] := List.eq_nil_of_length_eq_zero (by omega)
    subst hys
    rw [List.append_nil]
    obtain ⟨bo, cap, _, rfl, h5, _⟩ := cells_of_sl ho.1
    exact ⟨_, w, reh B c H (.slot d), run_append_stay ht hi h5, ext_reh .., hs.change (ext_reh ..) (chg_reh hn), ho.reh⟩
  | some p =>
    have fresh : ∀ (v' : Value) (w' : World) (us : List Value), CLL w c i.size us l → w'.ownsRow w.heap.size el i.size v' (l.length + ys.length) (us ++ news) → w.grownBy w' none →
        ∃ c', Ext B w c w' c' ∧ SRel τ B w' c' (slots a) e1 ∧ OwnR B w' c' (.slot d) v' i.size (l ++ ys) := fun v' w' us hus hown hgr => by
      obtain ⟨c', hx, ho'⟩ := fresh_row (h := .slot d) hgr hown (by simp) (hus.append h3)
      exact ⟨c', hx.mono hs.base, hs.alloc hx, ho'.mono hs.base⟩
    rcases ho.2 with ⟨rfl, rfl⟩ | ⟨b, cap, vs, ty', rfl, h5, h6, h7, h8, h9, h10⟩
    · obtain ⟨v', w', hr, hown, hgr, _⟩ := run_append_own (P := P) w w.heap.size t ty el i z i.size i.bytes ht hi hz rfl rfl hzs hpos (.slice none 0 0) 0 [] (World.ownsRow_nil w w.heap.size el i.size) p ys.length k news h3.1 (fun j u hu => h4 p rfl j u hu) hone
        (by simpa using h63) (by simpa using hbytes) (Nat.le_refl _)
      obtain ⟨c', r⟩ := fresh v' w' [] ⟨by simp, fun i cs hi => by simp at hi, fun i j cs x u hi => by simp at hi⟩ (by simpa using hown) hgr
      exact ⟨v', w', c', hr, r⟩
    · obtain ⟨bo, cap2, olds, e1', g5, _, g3, g4, _⟩ := cells_of_sl ho.1
      cases e1'
      have holds : ∀ (j : Nat) (u : Value), olds[j]? = some u → vs[j]? = some u := fun j u hu => by
        have := g4 _ rfl j u hu
        rw [add_none, cell_of h6, Nat.zero_add] at this; exact this
      by_cases hroom : l.length + ys.length ≤ cap
      · have hle : (l.length + ys.length) * i.size ≤ cap * i.size := Nat.mul_le_mul_right _ hroom
        rw [Nat.add_mul] at hle
        have hfit : l.length * i.size + news.length ≤ vs.size := by rw [h3.1, h7]; exact hle
        have hr := run_append_in (P := P) (ty := ty) (k := k) ht hi h6 h3.1 (fun j u hu => h4 p rfl j u hu) hone hroom hfit
        have hpre : ∀ j, j < l.length * i.size → vs[j]? = olds[j]? := fun j hj => by
          have hj' : j < olds.length := by rw [g3.1]; exact hj
          rw [List.getElem?_eq_getElem hj', holds j _ (List.getElem?_eq_getElem hj')]
        generalize hnc : (vs.toList.take (l.length * i.size) ++ news ++ vs.toList.drop (l.length * i.size + news.length)).toArray = nc at hr
        have htl : (vs.toList.take (l.length * i.size)).length = l.length * i.size := by simp; omega
        have hnew : ∀ (j : Nat) (u : Value), (olds ++ news)[j]? = some u → nc[j]? = some u := fun j u hu => by
          rw [← hnc]
          simp only [List.getElem?_toArray]
          have hj := (List.getElem?_eq_some_iff.1 hu).1
          rw [List.length_append, g3.1] at hj
          rw [List.getElem?_append_left (by rw [List.length_append, htl]; exact hj)]
          by_cases hjo : j < l.length * i.size
          · rw [List.getElem?_append_left (by rw [htl]; exact hjo), List.getElem?_take, if_pos hjo]
            rw [List.getElem?_append_left (by rw [g3.1]; exact hjo)] at hu
            simpa using holds j u hu
          · rw [List.getElem?_append_right (by rw [htl]; omega), htl]
            rw [List.getElem?_append_right (by rw [g3.1]; omega), g3.1] at hu
            exact hu
        have hx : Ext B w c (w.setRow b nc) (updC c b (.own ((l.length + ys.length) * i.size) (.slot d))) := by
          refine ⟨rfl, rfl, rfl, by simp [World.setRow], fun q hq hq' => ⟨setRow_other w b q nc (by omega), by simp [updC]; omega⟩, fun q j y hy hst => ?_⟩
          by_cases hqb : q = b
          · subst hqb
            unfold stab at hst
            rw [h10] at hst
            refine ⟨?_, by unfold stab updC; simp [Nat.add_mul]; omega⟩
            rw [cell_setRow_same w q j vs nc ty' (0, 0) h6]
            rw [cell_of h6] at hy
            rw [hpre j hst] at hy
            refine hnew j y ?_
            rw [List.getElem?_append_left (by rw [g3.1]; exact hst)]; exact hy
          · refine ⟨by rw [cell_setRow_other w b nc _ hqb]; exact hy, by unfold stab updC at *; simpa [hqb] using hst⟩
        have hch : Chg e1 w c (w.setRow b nc) (updC c b (.own ((l.length + ys.length) * i.size) (.slot d))) := fun q hq hl => by
          have hqb : q ≠ b := fun hh => hn (by rw [hh, h10] at hl; exact hl)
          exact ⟨setRow_other w b q nc hqb, by simp [updC, hqb]⟩
        have hb' := setRow_heap w b vs nc ty' (0, 0) h6
        have hncs : nc.size = cap * i.size := by
          rw [← hnc, ← h7]
          simp only [List.size_toArray, List.length_append, htl, List.length_drop, Array.length_toList]
          omega
        refine ⟨_, _, _, hr, hx, hs.change hx hch, ?_, .inr ⟨b, cap, nc, ty', by simp, h5, hb', hncs, h8, by simpa using hroom, by simp [updC]⟩⟩
        have := sl_of_cells (c := updC c b (.own ((l.length + ys.length) * i.size) (.slot d))) (cap := cap) hb' ((g3.append h3).ext hx) (by simpa using hroom) hnew (fun k hk => by unfold stab updC; simpa using hk)
        simpa using this
      · obtain ⟨v', w', hr, hown, hgr⟩ := run_append_arg_grows (P := P) w t ty el i z i.size i.bytes ht hi hz rfl rfl hzs hpos ⟨b, 0, none⟩ l.length cap olds g3.1 (fun j u hu => by rw [add_none, cell_of h6, Nat.zero_add]; exact holds j u hu) p ys.length k news h3.1 (fun j u hu => h4 p rfl j u hu)
          (by omega) h63 hbytes
        obtain ⟨c', r⟩ := fresh v' w' olds g3 hown hgr
        exact ⟨v', w', c', hr, r⟩
end
end Go.Proofs.YtmdimhcjogjcgaaGreatDoor.Abs
