/- Pieces of strings and slices; loads. -/
import Derived.Test.YtmdimhcjogjcgaaGreatDoorGae
import Derived.Laws.Tables
set_option linter.all false
noncomputable section
namespace Go.Proofs.YtmdimhcjogjcgaaGreatDoor.Abs
open Go.RowKit
section
variable {P : Program} {τ : Tab} {B : Nat} {w : World} {c : Cls} {a : Act} {e : Env} {o : Oper} {d : Nat} {v : AV} {call : Nat → List AV → Option AV}
theorem adi {β α : Type} {r : α} {l : List β} {lo hi : Option Operand} {k : List β → Option α} (hs : ax τ B w c (aj a) e) (h : wc e l lo hi k = some r) :
  ∃ m n : Nat, m ≤ n ∧ n ≤ l.length ∧ k ((l.take n).drop m) = some r ∧
   (∀ u, lo.map a.eval = some u → ∃ kd, u = .int kd m) ∧ (lo = none → m = 0) ∧ (∀ u, hi.map a.eval = some u → ∃ kd, u = .int kd n) ∧ (hi = none → n = l.length) := by
 cases lo with
 | none =>
  cases hi with
  | none => exact ⟨0, l.length, by omega, by omega, by rw [List.take_length, List.drop_zero]; exact h, by simp, by simp, by simp, by simp⟩
  | some y =>
   obtain ⟨b, hb, g⟩ := ck h
   obtain ⟨q, hq⟩ := hb.slot hs
   obtain ⟨kd, n, e1, g⟩ := tf g
   subst e1
   obtain ⟨hg, g⟩ := bn g
   simp only [Bool.and_eq_true, decide_eq_true_eq] at hg
   exact ⟨0, n.toNat, by omega, by omega, by rw [List.drop_zero]; exact g, by simp, by simp, fun u hu => by cases hu; exact ⟨kd, by rw [fb hq, Int.toNat_of_nonneg hg.1]⟩, by simp⟩
 | some x =>
  cases hi with
  | none =>
   obtain ⟨b, hb, g⟩ := ck h
   obtain ⟨q, hq⟩ := hb.slot hs
   obtain ⟨kd, n, e1, g⟩ := tf g
   subst e1
   obtain ⟨hg, g⟩ := bn g
   simp only [Bool.and_eq_true, decide_eq_true_eq] at hg
   exact ⟨n.toNat, l.length, by omega, by omega, by rw [List.take_length]; exact g, fun u hu => by cases hu; exact ⟨kd, by rw [fb hq, Int.toNat_of_nonneg hg.1]⟩, by simp, by simp, by simp⟩
  | some y =>
   obtain ⟨b, hb, g⟩ := ck h
   obtain ⟨q, hq⟩ := hb.slot hs
   obtain ⟨kd, m, e1, g⟩ := tf g
   subst e1
   obtain ⟨b2, hb2, g⟩ := ck g
   obtain ⟨q2, hq2⟩ := hb2.slot hs
   obtain ⟨kd2, n, e1, g⟩ := tf g
   subst e1
   obtain ⟨hg, g⟩ := bn g
   simp only [Bool.and_eq_true, decide_eq_true_eq] at hg
   exact ⟨m.toNat, n.toNat, by omega, by omega, g, fun u hu => by cases hu; exact ⟨kd, by rw [fb hq, Int.toNat_of_nonneg hg.1.1]⟩, by simp,
    fun u hu => by cases hu; exact ⟨kd2, by rw [fb hq2, Int.toNat_of_nonneg (by omega)]⟩, by simp⟩
theorem yj {isS : Bool} {len cap m n : Nat} {lo hi : Option Value} (hmn : m ≤ n) (hnl : n ≤ len) (hlc : len ≤ cap)
  (h1 : ∀ u, lo = some u → ∃ kd, u = .int kd m) (h2 : lo = none → m = 0) (h3 : ∀ u, hi = some u → ∃ kd, u = .int kd n) (h4 : hi = none → n = len) :
  (Instr.sliceBounds isS len cap lo hi none).run P w = .ok (m, n, cap) w := by
 have hb : ∀ (k y : Nat) kd code, k ≤ y → (Instr.sliceBound (.int kd k) y code).run P w = .ok k w := fun k y kd code hk => by
  simp [Instr.sliceBound, asIntOf, hk]
 cases lo with
 | none =>
  obtain rfl := h2 rfl
  cases hi with
  | none => obtain rfl := h4 rfl; simp [Instr.sliceBounds]
  | some u => obtain ⟨kd, rfl⟩ := h3 u rfl; simp [Instr.sliceBounds, hb n cap kd _ (by omega)]
 | some u0 =>
  obtain ⟨kd0, rfl⟩ := h1 u0 rfl
  cases hi with
  | none => obtain rfl := h4 rfl; simp [Instr.sliceBounds, hb m n kd0 _ (by omega)]
  | some u => obtain ⟨kd, rfl⟩ := h3 u rfl; simp [Instr.sliceBounds, hb n cap kd _ (by omega), hb m n kd0 _ (by omega)]
theorem ax6 {u : Value} {sz : Nat} {l : List (List AV)} {m n : Nat} (h : Rep w c u (.sl sz l)) (hmn : m ≤ n) (hn : n ≤ l.length) :
  ∃ b cap, u = .slice b l.length cap ∧ l.length ≤ cap ∧ Rep w c (.slice (if cap = m then b else b.map (·.add (m * sz))) (n - m) (cap - m)) (.sl sz ((l.take n).drop m)) := by
 obtain ⟨b, cap, hu, h1, h2, h3⟩ := gz h
 refine ⟨b, cap, hu, h1, ?_⟩
 have hlen : ((l.take n).drop m).length = n - m := by simp [Nat.min_eq_left hn]
 by_cases he : n - m = 0
 ·have hnil : (l.take n).drop m = [] := List.eq_nil_of_length_eq_zero (by rw [hlen, he])
  rw [hnil, he]
  cases b with
  | none =>
   have : cap = 0 := h2 rfl
   subst this
   simp only [Option.map_none, ite_self, Nat.zero_sub]
   exact .nil sz
  | some b =>
   simp only [Option.map_some]
   split <;> exact .emp _ _ _
 ·obtain ⟨g, q, hb, h4, f, h5, h6, h7⟩ := h3 (by omega)
  subst hb
  rw [if_neg (by omega), Option.map_some, j6]
  have hget : ∀ (i : Nat), i < n - m → ((l.take n).drop m)[i]? = l[m + i]? := fun i hi => by
   rw [List.getElem?_drop, List.getElem?_take, if_pos (by omega)]
  have := Rep.sl (w := w) (c := c) g (q + m * sz) (cap - m) sz ((l.take n).drop m) (fun i j => f (m + i) j) (by rw [hlen]; omega)
   (fun i cs hi => by
    have hlt : i < n - m := by rw [← hlen]; exact (List.getElem?_eq_some_iff.1 hi).1
    rw [hget i hlt] at hi; exact h4 _ cs hi)
   (fun i j hi hj => by
    rw [hlen] at hi
    have := h5 (m + i) j (by omega) hj
    rw [show q + m * sz + (i * sz + j) = q + ((m + i) * sz + j) by rw [Nat.add_mul]; omega]; exact this)
   (fun i j hi hj => by
    rw [hlen] at hi
    have := h6 (m + i) j (by omega) hj
    rw [show q + m * sz + (i * sz + j) = q + ((m + i) * sz + j) by rw [Nat.add_mul]; omega]; exact this)
   (fun i j cs x hi hx => by
    have hlt : i < n - m := by rw [← hlen]; exact (List.getElem?_eq_some_iff.1 hi).1
    rw [hget i hlt] at hi; exact h7 _ j cs x hi hx)
  rw [hlen] at this
  exact this
theorem aq7 (hT : db P τ) {t : Nat} {x : Operand} {lo hi : Option Operand} (ho : o.op = .slice t x lo hi none) (hs : ax τ B w c (aj a) e) (h : val τ call e o some = some v) : ej P o a w (Left P τ B a e w c d v) := by
 unfold val at h; simp only [ho] at h
 obtain ⟨b1, hb, g1⟩ := ck h
 clear h
 obtain ⟨q, hq⟩ := hb.slot hs
 unfold aj3 at g1
 split at g1
 ·rename_i hti
  obtain ⟨s, e1, g⟩ := ac1 g1
  clear g1
  subst e1
  obtain ⟨m, n, hmn, hn, g, h1, h2, h3, h4⟩ := adi hs g
  cases g
  have hk : P.underlying t = some .string := ((hT t _ hti).kind).1
  obtain ⟨bs, hu, rfl⟩ := gu hq
  have hsz : bs.size = bs.data.toList.length := by simp
  refine bq (u := .string (bs.extract m n)) ?_ ?_
  ·have := yj (P := P) (w := w) (isS := false) (len := bs.size) (cap := bs.size) (lo := lo.map a.eval) (hi := hi.map a.eval) hmn (by omega) (Nat.le_refl _) h1 (fun h => h2 (by simpa using h)) h3 (fun h => by rw [hsz]; exact h4 (by simpa using h))
   simp [execOp, ho, Instr.sliceAt, Instr.slice, cq hk, hu, this]
  ·have := Rep.str (w := w) (c := c) (bs.extract m n)
   rw [Lib.extract_data] at this
   have e2 : (bs.data.toList.take n).drop m = (bs.data.toList.drop m).take (n - m) := by rw [List.drop_take]
   rw [e2]; exact this
 ·rename_i hti
  obtain ⟨ti, hte, g⟩ := ja g1
  clear g1
  obtain ⟨l, hl, g⟩ := rh g
  obtain ⟨m, n, hmn, hn, g, h1, h2, h3, h4⟩ := adi hs g
  cases g
  obtain ⟨b, cap, hu, hcap, hr⟩ := ax6 (hq.isL hl) hmn hn
  refine bq (u := .slice (if cap = m then b else b.map (·.add (m * ti.sz))) (n - m) (cap - m)) ?_ hr
  have := yj (P := P) (w := w) (isS := true) (len := l.length) (cap := cap) (lo := lo.map a.eval) (hi := hi.map a.eval) hmn hn hcap h1 (fun h => h2 (by simpa using h)) h3 (fun h => h4 (by simpa using h))
  simp [execOp, ho, Instr.sliceAt, Instr.slice, cq (tg hT hti), hu, this, lq hT hte]
 ·cases g1
theorem pz (hT : db P τ) {t : Nat} {ti : TI} (hti : τ.T t = some ti) : (match ti.k with | .struct _ => (isAgg t).run P w = .ok true w | .array _ _ => (isAgg t).run P w = .ok true w | .tuple _ => True | _ => (isAgg t).run P w = .ok false w) := by
 have hk := (hT t ti hti).kind
 generalize ti.k = k at *
 cases k <;> simp only at hk ⊢
 case bool => simp [isAgg, cq hk.1]
 case int => simp [isAgg, cq hk.1]
 case str => simp [isAgg, cq hk.1]
 case slice => simp [isAgg, cq hk.1.1]
 case struct => obtain ⟨F, hF, _⟩ := hk; simp [isAgg, cq hF]
 case func => obtain ⟨⟨p, r, v, hk⟩, _⟩ := hk; simp [isAgg, cq hk]
 case array => simp [isAgg, cq hk]
theorem qj {b n : Nat} {u : Value} (h : w.cell? ⟨b, n, none⟩ = some u) : (_root_.Go.load (⟨b, n, none⟩ : Addr)).run P w = .ok u w := by simp [h]
theorem lr {b n k : Nat} {f : Nat → Value} (h : ∀ j, j < k → w.cell? ⟨b, n + j, none⟩ = some (f j)) : (loadCells ⟨b, n, none⟩ k).run P w = .ok ((List.range k).map f).toArray w :=
 run_loadCells w ⟨b, n, none⟩ k f fun j hj => by rw [j6]; exact h j hj
theorem lu {k j : Nat} {f : Nat → Value} {u : Value} (h : ((List.range k).map f).toArray[j]? = some u) : j < k ∧ u = f j := by
 simp only [List.getElem?_toArray, List.getElem?_map] at h
 by_cases hj : j < k
 ·simp [hj] at h; exact ⟨hj, h.symm⟩
 ·simp [hj] at h
theorem abx (hT : db P τ) {t z off b n : Nat} {cs : List AV} {f : Nat → Value} (hz : cs.length = z) (hc : ∀ j, j < z → w.cell? ⟨b, n + j, none⟩ = some (f j))
  (hr : ∀ (j : Nat) (x : AV), cs[j]? = some x → Rep w c (f j) x) (h : kt τ t z cs off some = some v) :
  ∃ u, (loadVar t ⟨b, n + off, none⟩).run P w = .ok u w ∧ gy w c u v := by
 unfold kt at h
 split at h
 ·rename_i fs sz bb zz hti
  have ha : (isAgg t).run P w = .ok true w := pz hT hti
  have hsz : (sizeOf t).run P w = .ok sz w := lq hT hti
  cases hb : (Nat.beq off 0 && Nat.beq z sz)
  ·rw [hb] at h
   obtain ⟨l, hl, hj, g⟩ := uv h
   cases g
   have hin : ∀ j, j < sz → off + j < z := fun j hjs => by
    have := hj j hjs
    rw [List.getElem?_eq_getElem (by omega)] at this
    rw [← hz]; exact (List.getElem?_eq_some_iff.1 this.symm).1
   refine ⟨.agg ((List.range sz).map fun j => f (off + j)).toArray, ?_, _, rfl, by simp, hl, fun j x u hx hu => ?_⟩
   ·simp only [loadVar, Sem.run_bind, ha, Result.andThen_ok, if_true, hsz]
    rw [lr (f := fun j => f (off + j)) (fun j hjs => by rw [Nat.add_assoc]; exact hc _ (hin j hjs))]
    rfl
   ·obtain ⟨hjs, rfl⟩ := lu hu
    exact hr _ _ (by rw [← hj j hjs]; exact hx)
  ·rw [hb] at h; cases h
   simp only [Bool.and_eq_true] at hb
   obtain rfl := Nat.eq_of_beq_eq_true hb.1
   obtain rfl := Nat.eq_of_beq_eq_true hb.2
   refine ⟨.agg ((List.range z).map f).toArray, ?_, _, rfl, by simp, hz, fun j x u hx hu => ?_⟩
   ·simp only [loadVar, Sem.run_bind, ha, Result.andThen_ok, if_true, hsz]
    rw [lr (f := f) (fun j hjs => by rw [Nat.add_zero]; exact hc _ hjs)]
    rfl
   ·obtain ⟨hjs, rfl⟩ := lu hu
    exact hr _ _ hx
 ·rename_i nn el sz bb zz hti
  obtain ⟨hb, g⟩ := bn h
  cases g
  have ha : (isAgg t).run P w = .ok true w := pz hT hti
  have hsz : (sizeOf t).run P w = .ok sz w := lq hT hti
  simp only [Bool.and_eq_true] at hb
  obtain rfl := Nat.eq_of_beq_eq_true hb.1
  obtain rfl := Nat.eq_of_beq_eq_true hb.2
  refine ⟨.agg ((List.range z).map f).toArray, ?_, _, rfl, by simp, hz, fun j x u hx hu => ?_⟩
  ·simp only [loadVar, Sem.run_bind, ha, Result.andThen_ok, if_true, hsz]
   rw [lr (f := f) (fun j hjs => by rw [Nat.add_zero]; exact hc _ hjs)]
   rfl
  ·obtain ⟨hjs, rfl⟩ := lu hu
   exact hr _ _ hx
 ·rename_i hns hna
  obtain ⟨x, hx, g⟩ := qq h
  obtain ⟨v', hcst, g⟩ := iq g
  cases g
  have hlt : off < z := by rw [← hz]; exact (List.getElem?_eq_some_iff.1 hx).1
  refine ⟨f off, ?_, (hr _ _ hx).plain hcst⟩
  obtain ⟨_, ti, hti, hm⟩ := hcst
  have ha := pz (w := w) hT hti
  have hf : (isAgg t).run P w = .ok false w := by
   obtain ⟨k, sz, bb, zz⟩ := ti
   cases k <;> first
    | exact ha
    | exact absurd hti (hns _ _ _ _)
    | exact absurd hti (hna _ _ _ _ _)
    | exact hm.elim
  simp only [loadVar, Sem.run_bind, hf, Result.andThen_ok, Bool.false_eq_true, if_false]
  exact qj (hc _ hlt)
theorem yk : ∀ (m : List (Nat × AV)) (cs : List AV) (j : Nat) (x : AV), (patch cs m)[j]? = some x → (∃ y, ovr m j = some y ∧ x = frz y) ∨ (ovr m j = none ∧ cs[j]? = some x)
 | [], cs, j, x, h => .inr ⟨rfl, h⟩
 | (p, y) :: r, cs, j, x, h => by
  simp only [patch, List.getElem?_set] at h
  by_cases hp : p = j
  ·subst hp
   simp only [if_true] at h
   split at h
   ·cases h; exact .inl ⟨y, by simp [ovr, aa], rfl⟩
   ·cases h
  ·rw [if_neg hp] at h
   rcases yk r cs j x h with ⟨z, h1, h2⟩ | ⟨h1, h2⟩
   ·exact .inl ⟨z, by simp [ovr, du hp, aa, h1], h2⟩
   ·exact .inr ⟨by simp [ovr, du hp, aa, h1], h2⟩
theorem uw : ∀ (m : List (Nat × AV)) (cs : List AV), (patch cs m).length = cs.length
 | [], cs => rfl
 | (p, y) :: r, cs => by simp only [patch, List.length_set]; exact uw r cs
theorem ov.frz {dd j : Nat} {u : Value} {x : AV} (h : ov B w c dd j u x) : Rep w c u (frz x) := by
 cases x <;> first
  | exact h.1
  | exact ac4 h
theorem ov.rep {dd j : Nat} {u : Value} {x : AV} (h : ov B w c dd j u x) (hn : ∀ s l, x ≠ .own s l) : Rep w c u x := by
 cases x <;> first
  | exact absurd rfl (hn _ _)
  | exact h
theorem ax7 {sz : Nat} {u : Value} {x : AV} {l : List (List AV)} (h : Rep w c u x) (hl : IsL sz x l) : Rep w c u (.sl sz l) := by
 rcases hl with ⟨rfl, rfl⟩ | rfl | rfl | ⟨q, rfl⟩ | ⟨q, o, rfl⟩
 ·cases h; exact .nil sz
 ·exact h
 ·cases h
 ·cases h
 ·cases h
theorem aud {dd j sz : Nat} {u : Value} {x : AV} {l : List (List AV)} (h : ov B w c dd j u x) (hl : IsL sz x l) : Rep w c u (.sl sz l) := by
 rcases hl with ⟨rfl, rfl⟩ | rfl | rfl | ⟨q, rfl⟩ | ⟨q, o, rfl⟩
 ·have h : Rep w c u .nil := h
  cases h; exact .nil sz
 ·exact h
 ·exact h.1
 ·have h : Rep w c u (.vw q sz l) := h
  cases h
 ·have h : Rep w c u (.vwc q o sz l) := h
  cases h
theorem aq8 {dd j t : Nat} {u : Value} {x v' : AV} (h : ov B w c dd j u x) (hc : Cst τ t x v') (hns : ∀ e s b z, τ.T t ≠ some ⟨.slice e, s, b, z⟩) : gy w c u v' := by
 refine Rep.plain (v := x) (t := t) (τ := τ) ?_ hc
 refine h.rep fun s l hx => ?_
 subst hx
 obtain ⟨⟨b, h1, _⟩ | ⟨kd, n, h1, _⟩ | ⟨s, h1, _⟩ | ⟨sz, l', hl, h1⟩ | ⟨sz, cs, h1, _⟩ | ⟨f, cs, h1, _⟩, ti, hti, hm⟩ := hc <;> first
  | cases h1
  | skip
 obtain ⟨k, s1, b1, z1⟩ := ti
 cases k <;> first
  | exact hm.elim
  | exact hns _ _ _ _ hti
theorem zb (hT : db P τ) {t dd z off : Nat} {cs : List AV} {m : List (Nat × AV)} (hb : qp B w c dd (aj a dd) z cs m) (he : e dd = .boxv z cs m)
  (h : pf τ t dd z cs m off some = some v) :
  ∃ b, aj a dd = .pointer (some ⟨b, 0, none⟩) ∧ ∃ u, (loadVar t ⟨b, off, none⟩).run P w = .ok u w ∧ dx B w c (aj a) e d u v := by
 obtain ⟨b, vs, ty, h1, h2, h3, h4, h5, h6, h7, h8, h9⟩ := hb
 have hcell : ∀ j, j < z → w.cell? ⟨b, j, none⟩ = some (vs.getD j undef) := fun j hj => by
  rw [cell_of h3]; simp [h5 ▸ hj]
 have hvs : ∀ j, j < z → vs[j]? = some (vs.getD j undef) := fun j hj => by simp [h5 ▸ hj]
 refine ⟨b, h1, ?_⟩
 unfold pf at h
 split at h
 ·rename_i fs sz bb zz hti
  have ha : (isAgg t).run P w = .ok true w := pz hT hti
  have hsz : (sizeOf t).run P w = .ok sz w := lq hT hti
  cases hbq : (Nat.beq off 0 && Nat.beq z sz)
  ·rw [hbq] at h
   obtain ⟨l, hl, hj, g⟩ := ahy h
   cases g
   have hin : ∀ j, j < sz → off + j < z := fun j hjs => by
    rcases hj j l[j] (by simp [hl, hjs]) with hx | ⟨_, hx⟩
    ·exact h9 _ _ hx
    ·rw [← h6]; exact (List.getElem?_eq_some_iff.1 hx).1
   refine ⟨.agg ((List.range sz).map fun j => vs.getD (off + j) undef).toArray, ?_, _, rfl, by simp, by simp [hl], fun j x u hx hu => ?_⟩
   ·simp only [loadVar, Sem.run_bind, ha, Result.andThen_ok, if_true, hsz]
    rw [lr (f := fun j => vs.getD (off + j) undef) (fun j hjs => hcell _ (hin j hjs))]
    rfl
   ·obtain ⟨hjs, rfl⟩ := lu hu
    rw [List.getElem?_map] at hx
    cases hy : l[j]? with
    | none => rw [hy] at hx; cases hx
    | some y =>
     rw [hy] at hx; cases hx
     rcases hj j y hy with hx | ⟨hn, hx⟩
     ·exact (h8 _ _ _ hx (hvs _ (hin j hjs))).frz
     ·exact ac4 (h7 _ _ _ hn hx (hvs _ (hin j hjs)))
  ·rw [hbq] at h; cases h
   simp only [Bool.and_eq_true] at hbq
   obtain rfl := Nat.eq_of_beq_eq_true hbq.1
   obtain rfl := Nat.eq_of_beq_eq_true hbq.2
   refine ⟨.agg ((List.range z).map fun j => vs.getD j undef).toArray, ?_, _, rfl, by simp, by rw [uw, h6], fun j x u hx hu => ?_⟩
   ·simp only [loadVar, Sem.run_bind, ha, Result.andThen_ok, if_true, hsz]
    rw [lr (f := fun j => vs.getD j undef) (fun j hjs => by rw [Nat.zero_add]; exact hcell _ hjs)]
    rfl
   ·obtain ⟨hjs, rfl⟩ := lu hu
    rcases yk m cs j x hx with ⟨y, hy, rfl⟩ | ⟨hy, hx'⟩
    ·exact (h8 j y _ hy (hvs j hjs)).frz
    ·exact h7 j x _ hy hx' (hvs j hjs)
 ·rename_i el s1 bb zz hti
  obtain ⟨ti, hte, g⟩ := ja h
  clear h
  have hf : (isAgg t).run P w = .ok false w := pz hT hti
  have hrun : off < z → (loadVar t ⟨b, off, none⟩).run P w = .ok (vs.getD off undef) w := fun hlt => by
   simp only [loadVar, Sem.run_bind, hf, Result.andThen_ok, Bool.false_eq_true, if_false]
   exact qj (hcell _ hlt)
  split at g
  ·rename_i x hx
   have hlt := h9 _ _ hx
   have hr := h8 _ _ _ hx (hvs _ hlt)
   refine ⟨_, hrun hlt, ?_⟩
   unfold sliceB at g
   split at g
   ·obtain ⟨hg, g⟩ := bn g
    cases g
    rename_i s2 l2
    obtain rfl := Nat.eq_of_beq_eq_true hg
    refine ⟨hr.1, fun z' cs' m' z'' l' hq ho => ⟨b, h1, hcell _ hlt⟩⟩
   ·obtain ⟨l, hl, g⟩ := rh g
    cases g
    exact aud hr hl
  ·rename_i hx
   obtain ⟨x, hxx, g⟩ := qq g
   obtain ⟨l, hl, g⟩ := rh g
   cases g
   have hlt : off < z := by rw [← h6]; exact (List.getElem?_eq_some_iff.1 hxx).1
   exact ⟨_, hrun hlt, ax7 (h7 off x _ hx hxx (hvs off hlt)) hl⟩
 ·cases h
 ·rename_i hns1 hns2 hns3
  obtain ⟨x, hx, g⟩ := aag h
  obtain ⟨v', hcst, g⟩ := iq g
  cases g
  have hlt : off < z := by
   rcases hx with hx | ⟨_, hx⟩
   ·exact h9 _ _ hx
   ·rw [← h6]; exact (List.getElem?_eq_some_iff.1 hx).1
  have hp : gy w c (vs.getD off undef) v := by
   rcases hx with hx | ⟨hn, hx⟩
   ·exact aq8 (h8 _ _ _ hx (hvs _ hlt)) hcst (fun e s b z => hns2 e s b z)
   ·exact (h7 _ _ _ hn hx (hvs _ hlt)).plain hcst
  refine ⟨_, ?_, hp.slot⟩
  obtain ⟨_, ti, hti, hm⟩ := hcst
  have ha := pz (w := w) hT hti
  have hf : (isAgg t).run P w = .ok false w := by
   obtain ⟨k, sz, bb, zz⟩ := ti
   cases k <;> first
    | exact ha
    | exact absurd hti (hns1 _ _ _ _)
    | exact absurd hti (hns3 _ _ _ _ _)
    | exact hm.elim
  simp only [loadVar, Sem.run_bind, hf, Result.andThen_ok, Bool.false_eq_true, if_false]
  exact qj (hcell _ hlt)
theorem aue (hT : db P τ) {t : Nat} {x : Operand} (ho : o.op = .load t x) (hs : ax τ B w c (aj a) e) (h : val τ call e o some = some v) : ej P o a w (Left P τ B a e w c d v) := by
 unfold val at h; simp only [ho] at h
 have hrun : ∀ b n u, a.eval x = .pointer (some ⟨b, n, none⟩) → (loadVar t ⟨b, n, none⟩).run P w = .ok u w → (execOp a.eval o).run P w = .ok (.value u) w := fun b n u hx hl => by
  simp only [execOp, ho, Instr.loadAt, hx, Instr.sureAddr, Sem.run_bind, Sem.run_pure, Result.andThen_ok, hl]
 cases x with
 | const => cases h
 | func => cases h
 | global g =>
  unfold load at h
  simp only at h
  split at h
  ·rename_i cs hg
   obtain ⟨b, n, h1, h2, f, h3, h4, h5⟩ := xh (hs.g g cs hg)
   obtain ⟨u, h6, h7⟩ := abx (off := 0) (n := n) hT h2 h3 h5 h
   exact bq (hrun b n u h1 (by simpa using h6)) h7.slot
  ·cases h
 | tmp s =>
  have hq := hs.slot s
  have h : loadT τ e t s some (e s) = some v := h
  unfold loadT at h
  split at h
  ·rename_i z cs m hx
   rw [hx] at hq
   obtain ⟨b, h1, u, h2, h3⟩ := zb (d := d) hT hq hx h
   exact bq (hrun b 0 u h1 h2) h3
  ·rename_i dd off hx
   rw [hx] at hq
   split at h
   ·rename_i z cs m hy
    obtain ⟨b, h1, h2⟩ := hq z cs m hy
    have hq2 := hs.slot dd
    rw [hy] at hq2
    obtain ⟨b', h1', u, h3, h4⟩ := zb (d := d) hT hq2 hy h
    rw [h1] at h1'; cases h1'
    exact bq (hrun b off u h2 h3) h4
   ·cases h
  ·rename_i z cs off hx
   rw [hx] at hq
   obtain ⟨b, n, h1, h2, f, h3, h4, h5⟩ := xh hq
   obtain ⟨u, h6, h7⟩ := abx hT h2 h3 h5 h
   exact bq (hrun b _ u h1 h6) h7.slot
  ·cases h
end
end Go.Proofs.YtmdimhcjogjcgaaGreatDoor.Abs
namespace Go.Proofs.YtmdimhcjogjcgaaGreatDoor.Abs
open Go.RowKit
section
variable {P : Program} {τ : Tab} {B : Nat} {w : World} {c : Cls} {a : Act} {e : Env} {o : Oper} {d : Nat} {v : AV} {call : Nat → List AV → Option AV}
theorem auf (hT : db P τ) {t z off : Nat} {cs : List AV} {vs : Array Value} (hz : cs.length = z) (hv : vs.size = z)
  (hr : ∀ (j : Nat) (x : AV) (u : Value), cs[j]? = some x → vs[j]? = some u → Rep w c u x) (h : kt τ t z cs off some = some v) :
  ∃ u, (part t vs off).run P w = .ok u w ∧ gy w c u v := by
 have hin : ∀ {sz : Nat}, off + sz ≤ z → ∀ (l : List AV), l.length = sz → (∀ j, j < sz → l[j]? = cs[off + j]?) → tc w c (.agg (vs.extract off (off + sz))) sz l := fun {sz} hle l hl hj => by
  refine ⟨_, rfl, by simp [hv]; omega, hl, fun j x u hx hu => ?_⟩
  have hjl : j < sz := by rw [← hl]; exact (List.getElem?_eq_some_iff.1 hx).1
  rw [hj j hjl] at hx
  rw [Array.getElem?_extract] at hu
  split at hu
  ·exact hr _ x u hx hu
  ·cases hu
 unfold kt at h
 split at h
 ·rename_i fs sz bb zz hti
  have ha : (isAgg t).run P w = .ok true w := pz hT hti
  have hsz : (sizeOf t).run P w = .ok sz w := lq hT hti
  cases hb : (Nat.beq off 0 && Nat.beq z sz)
  ·rw [hb] at h
   obtain ⟨l, hl, hj, g⟩ := uv h
   cases g
   have hle : off + sz ≤ z := by
    have hp : 0 < sz := (hT t _ hti).pos
    have := hj (sz - 1) (by omega)
    rw [List.getElem?_eq_getElem (by omega)] at this
    have := (List.getElem?_eq_some_iff.1 this.symm).1
    omega
   exact ⟨.agg (vs.extract off (off + sz)), by simp [part, ha, hsz], hin hle l hl hj⟩
  ·rw [hb] at h; cases h
   simp only [Bool.and_eq_true] at hb
   obtain rfl := Nat.eq_of_beq_eq_true hb.1
   obtain rfl := Nat.eq_of_beq_eq_true hb.2
   exact ⟨.agg (vs.extract 0 (0 + z)), by simp [part, ha, hsz], hin (by omega) cs hz (fun j _ => by rw [Nat.zero_add])⟩
 ·rename_i nn el sz bb zz hti
  obtain ⟨hb, g⟩ := bn h
  cases g
  have ha : (isAgg t).run P w = .ok true w := pz hT hti
  have hsz : (sizeOf t).run P w = .ok sz w := lq hT hti
  simp only [Bool.and_eq_true] at hb
  obtain rfl := Nat.eq_of_beq_eq_true hb.1
  obtain rfl := Nat.eq_of_beq_eq_true hb.2
  exact ⟨.agg (vs.extract 0 (0 + z)), by simp [part, ha, hsz], hin (by omega) cs hz (fun j _ => by rw [Nat.zero_add])⟩
 ·rename_i hns hna
  obtain ⟨x, hx, g⟩ := qq h
  obtain ⟨v', hcst, g⟩ := iq g
  cases g
  have hlt : off < vs.size := by rw [hv, ← hz]; exact (List.getElem?_eq_some_iff.1 hx).1
  have hvx : vs[off]? = some vs[off] := by simp [hlt]
  refine ⟨vs[off], ?_, (hr _ _ _ hx hvx).plain hcst⟩
  obtain ⟨_, ti, hti, hm⟩ := hcst
  have ha := pz (w := w) hT hti
  have hf : (isAgg t).run P w = .ok false w := by
   obtain ⟨k, sz, bb, zz⟩ := ti
   cases k <;> first
    | exact ha
    | exact absurd hti (hns _ _ _ _)
    | exact absurd hti (hna _ _ _ _ _)
    | exact hm.elim
  simp [part, hf, hvx]
theorem aq9 (hT : db P τ) {t f : Nat} {x : Operand} (ho : o.op = .field t x f) (hs : ax τ B w c (aj a) e) (h : val τ call e o some = some v) : ej P o a w (Left P τ B a e w c d v) := by
 unfold val at h; simp only [ho] at h
 obtain ⟨b1, hb, g1⟩ := ck h
 clear h
 obtain ⟨q, hq⟩ := hb.slot hs
 obtain ⟨ti, hti, g2⟩ := ja g1
 clear g1
 obtain ⟨cs, e1, g3⟩ := ac2 g2
 clear g2
 subst e1
 obtain ⟨fs, s, b, z, off, ft, hti', hf, g⟩ := adh g3
 clear g3
 obtain ⟨F, fd, fi, hF, hg, rfl, rfl, h1, h2, _⟩ := aki hT hti' hf
 obtain ⟨vs, hu, h3, h4, h5⟩ := hq
 obtain ⟨u, h6, h7⟩ := auf hT h4 h3 (fun j x u => h5 j x u) g
 refine bq (u := u) ?_ h7.slot
 simp [execOp, ho, Instr.field, cq hF, hg, hu, asAgg, h6]
def CR (w : World) (c : Cls) (cells : Array Value) (z : List AV) : Prop := cells.size = z.length ∧ ∀ (j : Nat) (u : Value) (x : AV), cells[j]? = some u → z[j]? = some x → Rep w c u x
def putAt (cells : Array Value) (off : Nat) (l : List (Value × Nat)) : Array Value := l.foldl (fun cs (x : Value × Nat) => cs.setIfInBounds (off + x.2) x.1) cells
theorem aai (off : Nat) : ∀ (l : List (Value × Nat)) (cells : Array Value), (putAt cells off l).size = cells.size
 | [], _ => rfl
 | x :: l, cells => by rw [show putAt cells off (x :: l) = putAt (cells.setIfInBounds (off + x.2) x.1) off l from rfl, aai off l]; simp
theorem yl (off : Nat) : ∀ (l : List Value) (n : Nat) (cells : Array Value) (k : Nat), off + n + l.length ≤ cells.size →
  (putAt cells off (l.zipIdx n))[k]? = if off + n ≤ k ∧ k < off + n + l.length then l[k - (off + n)]? else cells[k]?
 | [], n, cells, k, _ => by simp [putAt]; intro h1 h2; omega
 | x :: l, n, cells, k, h => by
  simp only [List.length_cons] at h
  rw [List.zipIdx_cons, show putAt cells off ((x, n) :: l.zipIdx (n + 1)) = putAt (cells.setIfInBounds (off + n) x) off (l.zipIdx (n + 1)) from rfl,
   yl off l (n + 1) _ k (by simp; omega)]
  by_cases h1 : off + n = k
  ·subst h1
   rw [if_neg (by omega), if_pos (by simp)]
   simp [show off + n < cells.size by omega]
  ·by_cases h2 : off + (n + 1) ≤ k ∧ k < off + (n + 1) + l.length
   ·rw [if_pos h2, if_pos (by simp only [List.length_cons]; omega)]
    rw [show k - (off + n) = (k - (off + (n + 1))) + 1 by omega]; simp
   ·rw [if_neg h2, if_neg (by simp only [List.length_cons]; omega)]
    rw [Array.getElem?_setIfInBounds_ne h1]
theorem ao8 (z cs : List AV) (off k : Nat) (h : off + cs.length ≤ z.length) : (ni z off cs)[k]? = if off ≤ k ∧ k < off + cs.length then cs[k - off]? else z[k]? := by
 unfold ni
 have hl : (z.take off).length = off := by simp; omega
 by_cases h1 : k < off
 ·rw [List.getElem?_append_left (by omega), List.getElem?_take, if_pos h1, if_neg (by omega)]
 ·rw [List.getElem?_append_right (by omega), hl]
  by_cases h2 : k - off < cs.length
  ·rw [List.getElem?_append_left h2, if_pos (by omega)]
  ·rw [List.getElem?_append_right (by omega), List.getElem?_drop, if_neg (by omega)]
   congr 1; omega
theorem ae6 (z cs : List AV) (off : Nat) (h : off + cs.length ≤ z.length) : (ni z off cs).length = z.length := by simp [ni]; omega
theorem CR.put {cells : Array Value} {z : List AV} {off sz : Nat} {u : Value} {cs : List AV} (h : CR w c cells z) (hc : akh w c sz u cs) (hle : off + sz ≤ z.length) :
  CR w c (putAt cells off u.cells.toList.zipIdx) (ni z off cs) := by
 have h1 : u.cells.toList.length = sz := by simp [hc.size]
 refine ⟨by rw [aai, ae6 _ _ _ (by rw [hc.len]; exact hle)]; exact h.1, fun j y x hy hx => ?_⟩
 rw [yl off _ 0 cells j (by rw [h1, h.1]; omega), h1] at hy
 rw [ao8 _ _ _ _ (by rw [hc.len]; exact hle), hc.len] at hx
 simp only [Nat.add_zero] at hy
 by_cases hj : off ≤ j ∧ j < off + sz
 ·rw [if_pos hj] at hy hx
  exact hc.rep _ x y hx (by simpa using hy)
 ·rw [if_neg hj] at hy hx
  exact h.2 j y x hy hx
theorem ah2 {place : Nat → Option (Nat × Nat)} {cells : Array Value} {i off sz : Nat} {u : Value} {r : List (Nat × Value)} (hp : place i = some (off, sz)) (hs : u.cells.size = sz) (hle : off + sz ≤ cells.size) :
  Instr.fill place cells ((i, u) :: r) = Instr.fill place (putAt cells off u.cells.toList.zipIdx) r := by
 have e : u.cells.zipIdx.foldl (fun cs (x : Value × Nat) => cs.setIfInBounds (off + x.2) x.1) cells = putAt cells off u.cells.toList.zipIdx := by
  rw [← Array.foldl_toList, Array.toList_zipIdx]; rfl
 simp only [Instr.fill, hp, hs, ne_eq, not_true_eq_false, Nat.not_lt.2 hle]
 rw [← e]; simp
theorem ah3 (hT : db P τ) (hs : ax τ B w c (aj a) e) {fs : List (Nat × Nat)} {S : Nat} {place : Nat → Option (Nat × Nat)}
  (hpl : ∀ (i off t : Nat) (ti : TI), fs[i]? = some (off, t) → τ.T t = some ti → place i = some (off, ti.sz) ∧ off + ti.sz ≤ S) :
  ∀ (ps : List (Nat × Operand)) (cells : Array Value) (z r : List AV), z.length = S → CR w c cells z → tu τ fs e ps z some = some r →
   ∃ cells', Instr.fill place cells (ps.map fun (i, x) => (i, a.eval x)) = some cells' ∧ CR w c cells' r ∧ r.length = S ∧ ∀ k, isSet τ fs ps k = false → cells'[k]? = cells[k]?
 | [], cells, z, r, hz, hc, h => by cases h; exact ⟨cells, rfl, hc, hz, fun _ _ => rfl⟩
 | (i, x) :: ps, cells, z, r, hz, hc, h => by
  unfold tu at h
  split at h
  ·cases h
  ·rename_i off t hf
   obtain ⟨b1, hb, g1⟩ := ck h
   obtain ⟨q, hq⟩ := hb.slot hs
   obtain ⟨v', hcst, g2⟩ := iq g1
   obtain ⟨ti, hti, g3⟩ := ja g2
   obtain ⟨cs, hcs, g4⟩ := oa g3
   have hr := pw hT hti hcst (hq.cst hcst) hcs
   obtain ⟨hp, hle⟩ := hpl i off t ti hf hti
   obtain ⟨cells', h1, h2, h3, h4⟩ := ah3 hT hs hpl ps (putAt cells off (a.eval x).cells.toList.zipIdx) (ni z off cs) r (by rw [ae6 _ _ _ (by rw [hr.len]; omega), hz]) (hc.put hr (by omega)) g4
   refine ⟨cells', by rw [List.map_cons, ah2 hp hr.size (by rw [hc.1]; omega)]; exact h1, h2, h3, fun k hk => ?_⟩
   simp only [isSet, Bool.or_eq_false_iff] at hk
   have hcv : (Nat.ble off k && Nat.blt k (off + ti.sz)) = false := by
    have := hk.1
    unfold aql at this
    rw [hf] at this
    simp only [hti] at this
    exact this
   have hno : ¬ (off ≤ k ∧ k < off + ti.sz) := fun hh => by
    have ht : (Nat.ble off k && Nat.blt k (off + ti.sz)) = true := by
     rw [Bool.and_eq_true]
     exact ⟨Nat.ble_eq_true_of_le hh.1, Nat.ble_eq_true_of_le hh.2⟩
    rw [ht] at hcv; cases hcv
   have hsz' : (a.eval x).cells.toList.length = ti.sz := by simp [hr.size]
   rw [h4 k hk.2, yl off _ 0 cells k (by rw [hsz', hc.1]; omega), hsz', if_neg (by omega)]
theorem anv {fs : List (Nat × Nat)} {ps : List (Nat × Operand)} : ∀ (z : List AV) (n j q : Nat), (j, q) ∈ y8 τ fs ps n z → ∃ l, n ≤ j ∧ z[j - n]? = some (.own q l) ∧ isSet τ fs ps j = false
 | [], n, j, q, h => by cases h
 | y :: r, n, j, q, h => by
  have up : (j, q) ∈ y8 τ fs ps (n + 1) r → ∃ l, n ≤ j ∧ (y :: r)[j - n]? = some (.own q l) ∧ isSet τ fs ps j = false := fun h => by
   obtain ⟨l, h1, h2, h3⟩ := anv r (n + 1) j q h
   refine ⟨l, by omega, ?_, h3⟩
   rw [show j - n = (j - (n + 1)) + 1 by omega, List.getElem?_cons_succ]; exact h2
  cases y <;> first
   | exact up h
   | skip
  rename_i sz l
  simp only [y8] at h
  cases hb : isSet τ fs ps n with
  | true => rw [hb] at h; exact up h
  | false =>
   rw [hb] at h
   rcases List.mem_cons.1 h with h | h
   ·cases h
    exact ⟨l, Nat.le_refl _, by rw [Nat.sub_self]; rfl, hb⟩
   ·exact up h
theorem ara (hT : db P τ) {t : Nat} {ps : Array (Nat × Operand)} (ho : o.op = .build t ps) (hs : ax τ B w c (aj a) e) (h : val τ call e o some = some v) : ej P o a w (Left P τ B a e w c d v) := by
 unfold val at h; simp only [ho] at h
 obtain ⟨fs, s, b, z, hti, h⟩ := am1 h
 obtain ⟨i, zv, h1, h2, h3, h4, h5, h6, h7⟩ := (hT t _ hti).info
 obtain ⟨F, hF, hfs, hsz⟩ := ah1 hT hti
 have hzl : (z.map frz).length = s := by simpa using h6
 have hcr : CR w c zv.cells (z.map frz) := by
  refine ⟨by rw [h5, hzl], fun j u x hu hx => ?_⟩
  rw [List.getElem?_map] at hx
  cases hy : z[j]? with
  | none => rw [hy] at hx; cases hx
  | some y =>
   rw [hy] at hx; cases hx
   have := h7 j u y hu hy
   cases y <;> first
    | exact ac4 (this w c)
    | skip
   rename_i s l
   cases l with
   | nil => have : u = .slice none 0 0 := this; subst this; exact .nil _
   | cons y l => have := this w c; cases this
 have hplaces : F.toList.mapM (fun f => (P.info? f.type).map fun i => (f.offset, i.size)) = some (F.toList.map fun f => (f.offset, ((P.info? f.type).map (·.size)).getD 0)) := by
  have : ∀ (l : List Field), (∀ f ∈ l, ∃ fi, P.info? f.type = some fi) → l.mapM (fun f => (P.info? f.type).map fun i => (f.offset, i.size)) = some (l.map fun f => (f.offset, ((P.info? f.type).map (·.size)).getD 0)) := by
   intro l
   induction l with
   | nil => intro _; rfl
   | cons f l ih =>
    intro hl
    obtain ⟨fi, hfi⟩ := hl f (by simp)
    simp [List.mapM_cons, hfi, ih fun g hg => hl g (by simp [hg])]
  exact this _ fun f hf => let ⟨fi, h, _⟩ := hsz f hf; ⟨fi, h⟩
 have hbuilt : P.built t (ps.map fun (i, x) => (i, a.eval x)).toList = Instr.fill ((F.toList.map fun f => (f.offset, ((P.info? f.type).map (·.size)).getD 0)).toArray[·]?) zv.cells (ps.toList.map fun (i, x) => (i, a.eval x)) := by
  unfold Program.built
  simp only [h1, hF, h4, hplaces]
  congr 1
  simp
 have hpl : ∀ (i off t : Nat) (ti : TI), fs[i]? = some (off, t) → τ.T t = some ti → ((F.toList.map fun f => (f.offset, ((P.info? f.type).map (·.size)).getD 0)).toArray[i]?) = some (off, ti.sz) ∧ off + ti.sz ≤ s := fun i off t ti hf hti => by
  obtain ⟨fi', hfi', hfs'⟩ := agq hT hti
  rw [hfs, List.getElem?_map] at hf
  cases hx : F.toList[i]? with
  | none => rw [hx] at hf; cases hf
  | some g =>
   rw [hx] at hf; cases hf
   obtain ⟨fi, k1, k2, k3⟩ := hsz g (List.mem_of_getElem? hx)
   rw [hfi'] at k1; cases k1
   refine ⟨?_, by omega⟩
   simp only [List.getElem?_toArray, List.getElem?_map, hx, Option.map_some, hfi', Option.getD_some, hfs']
 have hG : ∀ g : List AV → Option AV, tu τ fs e ps.toList (z.map frz) g = (tu τ fs e ps.toList (z.map frz) some).bind g := fun g => by rw [agf]; rfl
 cases hfl : tu τ fs e ps.toList (z.map frz) some with
 | none => rw [hG, hfl] at h; cases h
 | some r =>
  rw [hG, hfl] at h
  have h : aow (y8 τ fs ps.toList 0 z) s r some = some v := h
  obtain ⟨cells', k1, k2, k3, k4⟩ := ah3 hT hs hpl ps.toList zv.cells _ r hzl hcr hfl
  have hA : tc w c (.agg cells') s r := ⟨cells', rfl, by rw [k2.1, k3], k3, fun j x u hx hu => k2.2 j u x hu hx⟩
  have hN : ∀ j q, (j, q) ∈ y8 τ fs ps.toList 0 z → ∃ vs : Array Value, Value.agg cells' = .agg vs ∧ vs[j]? = some (.slice none 0 0) := fun j q hm => by
   obtain ⟨l, _, m2, m3⟩ := anv z 0 j q hm
   rw [Nat.sub_zero] at m2
   refine ⟨cells', rfl, ?_⟩
   rw [k4 j m3]
   have hj : j < zv.cells.size := by rw [h5, ← h6]; exact (List.getElem?_eq_some_iff.1 m2).1
   have hz := h7 j zv.cells[j] _ (Array.getElem?_eq_getElem hj) m2
   rw [Array.getElem?_eq_getElem hj]
   generalize zv.cells[j] = u0 at hz ⊢
   cases l with
   | nil => exact congrArg some hz
   | cons y l => have := hz w c; cases this
  have hrun : (execOp a.eval o).run P w = .ok (.value (.agg cells')) w := by
   simp only [execOp, ho, Sem.run_bind, run_build w t _ cells' (by rw [hbuilt]; exact k1), Result.andThen_ok, Sem.run_pure]
  generalize hm : y8 τ fs ps.toList 0 z = mm at *
  cases mm with
  | nil => cases h; exact bq (u := .agg cells') hrun hA
  | cons x mm => cases h; exact bq (u := .agg cells') hrun ⟨hA, hN⟩
end
end Go.Proofs.YtmdimhcjogjcgaaGreatDoor.Abs
