/- Several texts of mine in one (merge.py). -/
import Derived.Test.YtffojfcinkihnaaGreatDoorCpZ
import Derived.Deep.MidRow
import Derived.Deep.LoopGhost
import Derived.Test.YtffojfcinkihnaaGreatDoorTA
set_option linter.unusedVariables false
set_option linter.unusedSimpArgs false
set_option linter.unusedSectionVars false
set_option linter.deprecated false
set_option linter.unnecessarySimpa false
/- One place in a tree of values in own memory: what it holds may be put anew. -/
namespace Go.Proofs.YtffojfcinkihnaaGreatDoor.Lat
open Go.RowKit Go.Proofs.YtffojfcinkihnaaGreatDoor.Abs
set_option linter.unusedVariables false
theorem OTs.lens {w : World} {B : Nat} : ∀ {ts : List Tm} {vs : Array Value} {o : Nat} {fp : List Nat}, OTs w B vs o ts fp → fp.Nodup → ∀ (i : Nat) (t : Tm), ts[i]? = some t →
    ∃ f1, (∀ x ∈ f1, x ∈ fp) ∧ f1.Nodup ∧ OT w B vs (o + i * 8) t f1 ∧ ∀ (w' : World) (vs' : Array Value) (t' : Tm), (∀ b ∈ fp, b ∉ f1 → w'.heap[b]? = w.heap[b]?) → (∀ j, j < o + i * 8 ∨ o + i * 8 + 8 ≤ j → vs'[j]? = vs[j]?) →
      OT w' B vs' (o + i * 8) t' f1 → OTs w' B vs' o (ts.set i t') fp
  | [], vs, o, fp, h, hnd, i, t, hi => by simp at hi
  | x :: r, vs, o, fp, h, hnd, i, t, hi => by
    cases h with
    | @cons _ _ _ _ f1 f2 ht hr =>
    have hn := List.nodup_append.1 hnd
    cases i with
    | zero =>
      cases hi
      refine ⟨f1, fun y hy => by simp [hy], hn.1, by simpa using ht, fun w' vs' t' h1 h2 h3 => ?_⟩
      refine .cons (by simpa using h3) ?_
      exact (hr.frame fun b hb => h1 b (by simp [hb]) fun hc => hn.2.2 b hc b hb rfl).arr fun j hj _ => h2 j (.inr (by omega))
    | succ i =>
      obtain ⟨g1, a1, a2, a3, a4⟩ := OTs.lens hr hn.2.1 i t (by simpa using hi)
      have e : o + 8 + i * 8 = o + (i + 1) * 8 := by omega
      rw [e] at a3
      refine ⟨g1, fun y hy => by simp [a1 y hy], a2, a3, fun w' vs' t' h1 h2 h3 => ?_⟩
      refine .cons ((ht.frame fun b hb => h1 b (by simp [hb]) fun hc => hn.2.2 b hb b (a1 b hc) rfl).arr fun j hj hj2 => h2 j (.inl (by omega))) ?_
      exact a4 w' vs' t' (fun b hb hc => h1 b (by simp [hb]) hc) (fun j hj => h2 j (by omega)) (by rw [e]; exact h3)
theorem OFs.lens {w : World} {B : Nat} : ∀ {fs : List Fd} {vs : Array Value} {o : Nat} {fp : List Nat}, OFs w B vs o fs fp → fp.Nodup → ∀ (i : Nat) (n : Bs) (v : List Tm), fs[i]? = some (.mk n v) →
    ∃ f1 nb u, (∀ x ∈ f1, x ∈ fp) ∧ f1.Nodup ∧ vs[o + i * 2]? = some (.string nb) ∧ nb.data.toList = n ∧ vs[o + i * 2 + 1]? = some u ∧ OV w B u v f1 ∧ ∀ (w' : World) (vs' : Array Value) (nb' : ByteArray) (v' : List Tm), (∀ b ∈ fp, b ∉ f1 → w'.heap[b]? = w.heap[b]?) →
      (∀ j, j < o + i * 2 ∨ o + i * 2 + 1 ≤ j → vs'[j]? = vs[j]?) → vs'[o + i * 2]? = some (.string nb') → OV w' B u v' f1 → OFs w' B vs' o (fs.set i (.mk nb'.data.toList v')) fp
  | [], vs, o, fp, h, hnd, i, n, v, hi => by simp at hi
  | x :: r, vs, o, fp, h, hnd, i, n, v, hi => by
    cases h with
    | @cons _ _ nb u ts _ f1 f2 h0 h1 hv hr =>
    have hn := List.nodup_append.1 hnd
    cases i with
    | zero =>
      simp only [List.getElem?_cons_zero, Option.some.injEq, Fd.mk.injEq] at hi
      obtain ⟨rfl, rfl⟩ := hi
      refine ⟨f1, nb, u, fun y hy => by simp [hy], hn.1, by simpa using h0, rfl, by simpa using h1, hv, fun w' vs' nb' v' q1 q2 q3 q4 => ?_⟩
      refine .cons (by simpa using q3) (by rw [q2 (o + 1) (.inr (by omega))]; exact h1) q4 ?_
      exact (hr.frame fun b hb => q1 b (by simp [hb]) fun hc => hn.2.2 b hc b hb rfl).arr fun j hj _ => q2 j (.inr (by omega))
    | succ i =>
      obtain ⟨g1, nb', u', a1, a2, a3, a4, a5, a6, a7⟩ := OFs.lens hr hn.2.1 i n v (by simpa using hi)
      have e : o + 2 + i * 2 = o + (i + 1) * 2 := by omega
      rw [e] at a3 a5
      refine ⟨g1, nb', u', fun y hy => by simp [a1 y hy], a2, a3, a4, a5, a6, fun w' vs' nb2 v' q1 q2 q3 q4 => ?_⟩
      refine .cons (by rw [q2 o (.inl (by omega))]; exact h0) (by rw [q2 (o + 1) (.inl (by omega))]; exact h1) (hv.frame fun b hb => q1 b (by simp [hb]) fun hc => hn.2.2 b hb b (a1 b hc) rfl) ?_
      exact a7 w' vs' nb2 v' (fun b hb hc => q1 b (by simp [hb]) hc) (fun j hj => q2 j (by omega)) (by rw [e]; exact q3) q4
end Go.Proofs.YtffojfcinkihnaaGreatDoor.Lat
/- Spoiling a value of its own memory: nothing else is written. -/
namespace Go.Proofs.YtffojfcinkihnaaGreatDoor.Lat.Sp
open Go.RowKit Go.Lib Go.Proofs.YtffojfcinkihnaaGreatDoor.Abs Go.Proofs.YtffojfcinkihnaaGreatDoor.Lat Go.Proofs.YtffojfcinkihnaaGreatDoor.Lat.Cp
set_option linter.unusedVariables false
/-- Nothing but these blocks, and new ones, has changed. -/
structure Kp (fp : List Nat) (w w' : World) : Prop where
  os : w'.os = w.os
  tape : w'.tape = w.tape
  output : w'.output = w.output
  size : w.heap.size ≤ w'.heap.size
  block : ∀ k, k < w.heap.size → k ∉ fp → w'.heap[k]? = w.heap[k]?
theorem Kp.refl (fp : List Nat) (w : World) : Kp fp w w := ⟨rfl, rfl, rfl, Nat.le_refl _, fun _ _ _ => rfl⟩
theorem Kp.trans {fp fq fr : List Nat} {a b c : World} (h : Kp fp a b) (k : Kp fq b c) (h1 : ∀ x ∈ fp, x ∈ fr) (h2 : ∀ x ∈ fq, x ∈ fr) : Kp fr a c :=
  ⟨k.os.trans h.os, k.tape.trans h.tape, k.output.trans h.output, Nat.le_trans h.size k.size, fun q hq hn => (k.block q (Nat.lt_of_lt_of_le hq h.size) fun c => hn (h2 q c)).trans (h.block q hq fun c => hn (h1 q c))⟩
theorem Kp.below {fp : List Nat} {a b : World} (h : Below a.heap.size a b) : Kp fp a b := ⟨h.os, h.tape, h.output, h.size, fun k hk _ => h.block k hk⟩
theorem Kp.put {fp : List Nat} {a b : World} (h : Kp fp a b) {g i : Nat} (hg : g ∈ fp) (u : Value) : Kp fp a (b.setCell ⟨g, i, none⟩ u) :=
  ⟨h.os, h.tape, h.output, by simpa using h.size, fun k hk hn => (Below.heap_setCell b _ u k (fun e => hn (by rw [e]; exact hg))).trans (h.block k hk hn)⟩
def SpPost (fp : List Nat) (B : Nat) (v : Value) (w : World) (e : Ending) (w' : World) : Prop := e = .returned (.tuple #[]) ∧ Kp fp w w' ∧ ∃ ts', OV w' B v ts' fp
/-- Terms, from the i-th on as they were. -/
structure TI (w0 : World) (B b S : Nat) (ty : TypeId) (ts : List Tm) (fp : List Nat) (i : Nat) (W : World) : Prop where
  kp : Kp (b :: fp) w0 W
  ex : ∃ vs ts', W.heap[b]? = some (.cells vs ty (0, 0)) ∧ vs.size = S ∧ OTs W B vs 0 ts' fp ∧ ts'.length = ts.length ∧ ∀ j, i ≤ j → ts'[j]? = ts[j]?
/-- Fields, likewise. -/
structure FI (w0 : World) (B b S : Nat) (ty : TypeId) (fs : List Fd) (fp : List Nat) (i : Nat) (W : World) : Prop where
  kp : Kp (b :: fp) w0 W
  ex : ∃ vs fs', W.heap[b]? = some (.cells vs ty (0, 0)) ∧ vs.size = S ∧ OFs W B vs 0 fs' fp ∧ fs'.length = fs.length ∧ ∀ j, i ≤ j → fs'[j]? = fs[j]?
/-- A field's step: its value is spoilt, then its name. -/
theorem FI.at {w0 W : World} {B b S : Nat} {ty : TypeId} {fs : List Fd} {fp : List Nat} {i : Nat} {n : Bs} {v : List Tm} (h : FI w0 B b S ty fs fp i W) (hnd : (b :: fp).Nodup) (hi : fs[i]? = some (.mk n v)) :
    ∃ vs f1 nb u, W.heap[b]? = some (.cells vs ty (0, 0)) ∧ vs[i * 2]? = some (.string nb) ∧ vs[i * 2 + 1]? = some u ∧ OV W B u v f1 ∧ f1.Nodup ∧ (∀ x ∈ f1, x ∈ fp) ∧
      ∀ e W', SpPost f1 B u W e W' → W'.heap[b]? = some (.cells vs ty (0, 0)) ∧ ∀ nb' : ByteArray, FI w0 B b S ty fs fp (i + 1) (W'.setCell ⟨b, i * 2, none⟩ (.string nb')) := by
  obtain ⟨vs, fs', hb, hS, hO, hl, hsame⟩ := h.ex
  have hn := List.nodup_cons.1 hnd
  obtain ⟨f1, nb, u, a1, a2, a3, a4, a5, a6, a7⟩ := hO.lens hn.2 i n v ((hsame i (Nat.le_refl _)).trans hi)
  rw [Nat.zero_add] at a3 a5
  refine ⟨vs, f1, nb, u, hb, a3, a5, a6, a2, a1, fun e W' hP => ?_⟩
  obtain ⟨_, hK, ts', hO'⟩ := hP
  have hb' : W'.heap[b]? = some (.cells vs ty (0, 0)) := (hK.block b (blk_lt hb) fun c => hn.1 (a1 b c)).trans hb
  refine ⟨hb', fun nb' => ⟨?_, ?_⟩⟩
  · exact (h.kp.trans hK (fun x hx => hx) (fun x hx => by simp [a1 x hx])).put (by simp) _
  · have hs := heap_setCell_same W' b (i * 2) vs ty (.string nb') hb'
    have hne : ∀ q, q ≠ b → (W'.setCell ⟨b, i * 2, none⟩ (.string nb')).heap[q]? = W'.heap[q]? := fun q hq => Below.heap_setCell W' _ _ q hq
    have hlt : i * 2 < vs.size := (Array.getElem?_eq_some_iff.1 a3).1
    refine ⟨_, fs'.set i (.mk nb'.data.toList ts'), hs, by simpa using hS, ?_, by rw [List.length_set]; exact hl, fun j hj => ?_⟩
    · refine a7 _ _ nb' ts' (fun q hq hqn => ?_) (fun j hj => ?_) ?_ (hO'.frame fun q hq => hne q fun e => hn.1 (by rw [← e]; exact a1 q hq))
      · have hqb : q ≠ b := fun e => hn.1 (by rw [← e]; exact hq)
        exact (hne q hqb).trans (hK.block q (hO.bd q hq).2 hqn)
      · rw [Array.getElem?_setIfInBounds]
        rw [if_neg (by omega)]
      · rw [Nat.zero_add, Array.getElem?_setIfInBounds, if_pos rfl, if_pos hlt]
    · rw [List.getElem?_set_ne (by omega)]
      exact hsame j (by omega)
/-- A term's step. -/
theorem TI.at {w0 W : World} {B b S : Nat} {ty : TypeId} {ts : List Tm} {fp : List Nat} {i : Nat} (h : TI w0 B b S ty ts fp i W) (hnd : (b :: fp).Nodup) {t : Tm} (hi : ts[i]? = some t) :
    ∃ vs f1 fv, W.heap[b]? = some (.cells vs ty (0, 0)) ∧ i * 8 + 8 ≤ vs.size ∧ (∃ l : Int, vs[i * 8 + 1]? = some (.int .i64 l)) ∧ vs[i * 8 + 7]? = some fv ∧ OF W B fv t.fs f1 ∧ f1.Nodup ∧ (∀ x ∈ f1, x ∈ fp) ∧
      ∀ W' fs', Kp f1 (W.setCell ⟨b, i * 8 + 1, none⟩ (.int .i64 77)) W' → OF W' B fv fs' f1 → W'.heap[b]? = (W.setCell ⟨b, i * 8 + 1, none⟩ (.int .i64 77)).heap[b]? ∧ TI w0 B b S ty ts fp (i + 1) W' := by
  obtain ⟨vs, ts', hb, hS, hO, hl, hsame⟩ := h.ex
  have hn := List.nodup_cons.1 hnd
  obtain ⟨f1, a1, a2, a3, a4⟩ := hO.lens hn.2 i _ ((hsame i (Nat.le_refl _)).trans hi)
  rw [Nat.zero_add] at a3
  cases a3 with
  | @mk _ _ k' lo' hi' sb' a' m' op' fs0 v fp0 h0 h1 h2 h3 h4 h5 h6 h7 hf =>
  have hlt : i * 8 + 7 < vs.size := (Array.getElem?_eq_some_iff.1 h7).1
  refine ⟨vs, f1, v, hb, by omega, ⟨_, h1⟩, h7, hf, a2, a1, fun W' fs' hK hF => ?_⟩
  have hb1 := heap_setCell_same W b (i * 8 + 1) vs ty (.int .i64 77) hb
  have hbf : b ∉ f1 := fun c => hn.1 (a1 b c)
  have hb' : W'.heap[b]? = _ := hK.block b (blk_lt hb1) hbf
  have hne : ∀ q, q ≠ b → (W.setCell ⟨b, i * 8 + 1, none⟩ (.int .i64 77)).heap[q]? = W.heap[q]? := fun q hq => Below.heap_setCell W _ _ q hq
  refine ⟨hb', ⟨?_, ?_⟩⟩
  · exact (h.kp.put (g := b) (i := i * 8 + 1) (by simp) (.int .i64 77)).trans hK (fun x hx => hx) (fun x hx => by simp [a1 x hx])
  · refine ⟨_, ts'.set i (.mk k' 77 hi' sb'.data.toList a' m' op' fs'), hb'.trans hb1, by simpa using hS, ?_, by rw [List.length_set]; exact hl, fun j hj => ?_⟩
    · refine a4 _ _ _ (fun q hq hqn => ?_) (fun j hj => ?_) ?_
      · have hqb : q ≠ b := fun e => hn.1 (by rw [← e]; exact hq)
        exact (hK.block q (by have := (hO.bd q hq).2; simpa using this) hqn).trans (hne q hqb)
      · rw [Array.getElem?_setIfInBounds, if_neg (by omega)]
      · rw [Nat.zero_add]
        have other : ∀ j, j ≠ i * 8 + 1 → (vs.setIfInBounds (i * 8 + 1) (.int .i64 77))[j]? = vs[j]? := fun j hj => by rw [Array.getElem?_setIfInBounds, if_neg (by omega)]
        exact .mk (by rw [other _ (by omega)]; exact h0) (by rw [Array.getElem?_setIfInBounds, if_pos rfl, if_pos (by omega)]) (by rw [other _ (by omega)]; exact h2) (by rw [other _ (by omega)]; exact h3) (by rw [other _ (by omega)]; exact h4) (by rw [other _ (by omega)]; exact h5) (by rw [other _ (by omega)]; exact h6) (by rw [other _ (by omega)]; exact h7) hF
    · rw [List.getElem?_set_ne (by omega)]
      exact hsame j (by omega)
theorem szT_fs (t : Tm) : szT t = 1 + szF t.fs := by cases t; rfl
theorem of_slice {w : World} {B : Nat} {v : Value} {fs : List Fd} {fp : List Nat} (h : OF w B v fs fp) : ∃ bo n cap, v = .slice bo n cap := by cases h <;> exact ⟨_, _, _, rfl⟩
set_option maxHeartbeats 4000000 in
set_option maxRecDepth 100000 in
theorem spoil_step (n : Nat) (hn : n ≤ 1073741824) (ih : ∀ (ts : List Tm) (v : Value) (w : World) (B : Nat) (fp : List Nat) (d : Int), szV ts < n → OV w B v ts fp → fp.Nodup → 0 ≤ d → d ≤ 20 → Calls Tryz.prog 35 #[.agg #[v], .int .i64 d] w (SpPost fp B v w))
    (ts : List Tm) (v : Value) (w : World) (B : Nat) (fp : List Nat) (d : Int) (hs : szV ts ≤ n) (hO : OV w B v ts fp) (hnd : fp.Nodup) (h0 : 0 ≤ d) (h20 : d ≤ 20) : Calls Tryz.prog 35 #[.agg #[v], .int .i64 d] w (SpPost fp B v w) := by
  have hbx : Below w.heap.size w (w.alloc (.cells #[v] 25)) := (Below.refl _ w).alloc (Nat.le_refl _) _
  have hbr := heap_alloc_new w (.cells #[v] 25)
  by_cases hd : d = 0
  · subst hd
    have hfin := Lib.hid (show SpPost fp B v w (.returned (.tuple #[])) (w.alloc (.cells #[v] 25)) from ⟨rfl, Kp.below hbx, ts, hO.frame fun b hb => hbx.block b (hO.bd b hb).2⟩)
    obtain ⟨bo, nv, cap, rfl⟩ := ov_slice hO
    have q0 : (w.alloc (.cells #[.slice bo nv cap] 25)).cell? ⟨w.heap.size, 0, none⟩ = some (.slice bo nv cap) := by rw [cell_of hbr]; rfl
    clear hO hbr hbx
    go_enter Tryz.func35, Tryz.ntmps35
    go_wp2_with fail
    generalize (w.alloc (.cells #[.slice bo nv cap] 25)) = wA at *
    go_loopg [4] 0 (fun gk v4 W => v4 = .int .i64 0 ∧ W = wA)
    case atStart => exact ⟨rfl, rfl⟩
    case round =>
      obtain ⟨rfl, rfl⟩ := hrel
      by_cases hz : (0 : Int) < (nv : Int)
      · go_wp2_with fail
        go_end0
        exact hfin.out
      · go_wp2_with fail
        go_end0
        exact hfin.out
  · have hd1 : 0 < d := by omega
    cases hO with
    | nil =>
      have hfin := Lib.hid (show SpPost [] B (.slice none 0 0) w (.returned (.tuple #[])) (w.alloc (.cells #[.slice none 0 0] 25)) from ⟨rfl, Kp.below hbx, [], .nil⟩)
      have q0 : (w.alloc (.cells #[.slice none 0 0] 25)).cell? ⟨w.heap.size, 0, none⟩ = some (.slice none 0 0) := by rw [cell_of hbr]; rfl
      clear hbr hbx
      go_enter Tryz.func35, Tryz.ntmps35
      go_wp2_with fail
      generalize (w.alloc (.cells #[.slice none 0 0] 25)) = wA at *
      go_loopg [4] 0 (fun gk v4 W => v4 = .int .i64 0 ∧ W = wA)
      case atStart => exact ⟨rfl, rfl⟩
      case round =>
        obtain ⟨rfl, rfl⟩ := hrel
        go_wp2_with fail
        go_end0
        exact hfin.out
    | @emp bo cap =>
      have hfin := Lib.hid (show SpPost [] B (.slice (some bo) 0 cap) w (.returned (.tuple #[])) (w.alloc (.cells #[.slice (some bo) 0 cap] 25)) from ⟨rfl, Kp.below hbx, [], .emp⟩)
      have q0 : (w.alloc (.cells #[.slice (some bo) 0 cap] 25)).cell? ⟨w.heap.size, 0, none⟩ = some (.slice (some bo) 0 cap) := by rw [cell_of hbr]; rfl
      clear hbr hbx
      go_enter Tryz.func35, Tryz.ntmps35
      go_wp2_with fail
      generalize (w.alloc (.cells #[.slice (some bo) 0 cap] 25)) = wA at *
      go_loopg [4] 0 (fun gk v4 W => v4 = .int .i64 0 ∧ W = wA)
      case atStart => exact ⟨rfl, rfl⟩
      case round =>
        obtain ⟨rfl, rfl⟩ := hrel
        go_wp2_with fail
        go_end0
        exact hfin.out
    | @row b cap n' vs ty _ fpr hB hb hn' hc hvs hp hT =>
      subst hn'
      have hnl : ts.length ≤ 1073741824 := Nat.le_trans (szV_len ts) (by omega)
      have hblt := blk_lt hb
      have hfl : ∀ x ∈ fpr, x < w.heap.size := fun x hx => (hT.bd x hx).2
      have hT0 : TI (w.alloc (.cells #[.slice (some ⟨b, 0, none⟩) ts.length cap] 25)) B b (cap * 8) ty ts fpr 0 (w.alloc (.cells #[.slice (some ⟨b, 0, none⟩) ts.length cap] 25)) :=
        ⟨Kp.refl _ _, vs, ts, (hbx.block b hblt).trans hb, hvs, hT.frame fun q hq => hbx.block q (hfl q hq), rfl, fun _ _ => rfl⟩
      have KB : ∀ W, Kp (b :: fpr) (w.alloc (.cells #[.slice (some ⟨b, 0, none⟩) ts.length cap] 25)) W → W.heap[w.heap.size]? = some (.cells #[.slice (some ⟨b, 0, none⟩) ts.length cap] 25 (0, 0)) := fun W hK =>
        (hK.block w.heap.size (by simp) (fun c => by rcases List.mem_cons.1 c with e | e; · omega
                                                     · have := hfl _ e; omega)).trans hbr
      have hfin : ∀ W, TI (w.alloc (.cells #[.slice (some ⟨b, 0, none⟩) ts.length cap] 25)) B b (cap * 8) ty ts fpr ts.length W → SpPost (b :: fpr) B (.slice (some ⟨b, 0, none⟩) ts.length cap) w (.returned (.tuple #[])) W := fun W h => by
        obtain ⟨vs', ts', e1, eS, e2, e3, e4⟩ := h.ex
        exact ⟨rfl, (Kp.below hbx : Kp [] w _).trans h.kp (fun x hx => by cases hx) (fun x hx => hx), ts', .row hB e1 e3.symm hc eS hp e2⟩
      have q0 : (w.alloc (.cells #[.slice (some ⟨b, 0, none⟩) ts.length cap] 25)).cell? ⟨w.heap.size, 0, none⟩ = some (.slice (some ⟨b, 0, none⟩) ts.length cap) := by rw [cell_of hbr]; rfl
      have hbw : b ≠ w.heap.size := by omega
      have hXfp : w.heap.size ∉ fpr := fun c => by have := hfl _ c; omega
      replace hfin := Lib.hid hfin
      replace KB := Lib.hid KB
      replace hT0 := Lib.hid hT0
      clear hT hb hbr hbx hfl hvs
      go_enter Tryz.func35, Tryz.ntmps35
      go_wp2_with fail
      generalize (w.alloc (.cells #[.slice (some ⟨b, 0, none⟩) ts.length cap] 25)) = wA at *
      go_loopg [4] ts.length (fun gk v4 W => ∃ i : Nat, i + gk = ts.length ∧ v4 = .int .i64 i ∧ Ax (TI wA B b (cap * 8) ty ts fpr i W))
      case atStart => exact ⟨0, by omega, rfl, ⟨hT0.out⟩⟩
      case round =>
        clear hT0
        obtain ⟨i, hig, rfl, HM⟩ := hrel
        have kb := KB.out wr HM.out.kp
        have q0 : wr.cell? ⟨w.heap.size, 0, none⟩ = some (.slice (some ⟨b, 0, none⟩) ts.length cap) := by rw [cell_of kb]; rfl
        by_cases hil : i < ts.length
        · obtain ⟨g1, rfl⟩ : ∃ j, gk = j + 1 := ⟨gk - 1, by omega⟩
          obtain ⟨t, hk⟩ : ∃ x, ts[i]? = some x := ⟨ts[i], List.getElem?_eq_getElem hil⟩
          obtain ⟨vs1, f1, fv, e1, e2, ⟨lo, e3⟩, e4, e5, e6, e7, e8⟩ := HM.out.at hnd hk
          obtain ⟨bo, nf, cf, rfl⟩ := of_slice e5
          have p1 : wr.cell? ⟨b, i * 8 + 1, none⟩ = some (.int .i64 lo) := by rw [cell_of e1]; exact e3
          have z1 := frozen_of_row wr b (i * 8 + 1) _ _ e1
          have hb1 := heap_setCell_same wr b (i * 8 + 1) vs1 ty (.int .i64 77) e1
          have p7 : (wr.setCell ⟨b, i * 8 + 1, none⟩ (.int .i64 77)).cell? ⟨b, i * 8 + 7, none⟩ = some (.slice bo nf cf) := by
            rw [cell_of hb1, Array.getElem?_setIfInBounds, if_neg (by omega)]; exact e4
          have p0 : (wr.setCell ⟨b, i * 8 + 1, none⟩ (.int .i64 77)).cell? ⟨w.heap.size, 0, none⟩ = some (.slice (some ⟨b, 0, none⟩) ts.length cap) := by
            rw [cell_heap (Below.heap_setCell wr ⟨b, i * 8 + 1, none⟩ _ w.heap.size (by show w.heap.size ≠ b; omega))]; exact q0
          replace e8 := Lib.hid e8
          have hbf : b ∉ f1 := fun c => (List.nodup_cons.1 hnd).1 (e7 b c)
          have e5' : OF (wr.setCell ⟨b, i * 8 + 1, none⟩ (.int .i64 77)) B (.slice bo nf cf) t.fs f1 := e5.frame fun q hq => Below.heap_setCell wr _ _ q fun e => hbf (by rw [show b = q from e.symm]; exact hq)
          have hnd1 := e6
          have hW1 : (wr.setCell ⟨b, i * 8 + 1, none⟩ (.int .i64 77)).heap[w.heap.size]? = some (.cells #[.slice (some ⟨b, 0, none⟩) ts.length cap] 25 (0, 0)) := (Below.heap_setCell wr _ _ _ (by show w.heap.size ≠ b; omega)).trans kb
          have hxf : w.heap.size ∉ f1 := fun c => by
            have := (e5.bd _ c).2
            have h3 := HM.out.kp.size
            exact hXfp (e7 _ c)
          replace HM := Lib.hid HM
          clear e1 e3 e4 e5 e6 hb1
          go_wp2_with fail
          generalize hgW : (wr.setCell ⟨b, i * 8 + 1, none⟩ (.int .i64 77)) = W1 at *
          have hsf : ∀ (k : Nat) (nm : Bs) (v : List Tm), t.fs[k]? = some (.mk nm v) → szV v < n := fun k nm v h => by
            have h1 := sz_get hk
            have h2 := szF_get h
            rw [szT_fs] at h1
            omega
          have hfl : t.fs.length ≤ 1073741824 := by
            have h1 := sz_get hk
            have h2 := szF_len t.fs
            rw [szT_fs] at h1
            omega
          generalize t.fs = fs0 at *
          cases e5' with
          | nil =>
            have hnx := Lib.hid (e8.out W1 [] (Kp.refl _ _) .nil).2
            go_loopg [6] 0 (fun gk v6 W => v6 = .int .i64 0 ∧ W = W1)
            case atStart => exact ⟨rfl, rfl⟩
            case round =>
              obtain ⟨rfl, rfl⟩ := hrel
              go_wp2_with fail
              go_roundg g1
              case measure => omega
              case rel => exact ⟨i + 1, by omega, by go_num, ⟨hnx.out⟩⟩
          | @emp bo cf =>
            have hnx := Lib.hid (e8.out W1 [] (Kp.refl _ _) .emp).2
            go_loopg [6] 0 (fun gk v6 W => v6 = .int .i64 0 ∧ W = W1)
            case atStart => exact ⟨rfl, rfl⟩
            case round =>
              obtain ⟨rfl, rfl⟩ := hrel
              go_wp2_with fail
              go_roundg g1
              case measure => omega
              case rel => exact ⟨i + 1, by omega, by go_num, ⟨hnx.out⟩⟩
          | @row b2 cf nf2 vs2 ty2 fs2 fp2 hB2 hb2 hn2 hc2 hs2 hp2 hO2 =>
            subst hn2
            have hnb2 := List.nodup_cons.1 hnd1
            have hb2b : b2 ≠ b := fun e => hbf (by simp [e])
            have hb2x : b2 ≠ w.heap.size := fun e => hxf (by simp [e])
            have hF0 := Lib.hid (show FI W1 B b2 (cf * 2) ty2 fs0 fp2 0 W1 from ⟨Kp.refl _ _, vs2, fs0, hb2, hs2, hO2, rfl, fun _ _ => rfl⟩)
            replace hsf := Lib.hid hsf
            have hbn1 : ∀ W, Kp (b2 :: fp2) W1 W → W.cell? ⟨w.heap.size, 0, none⟩ = some (.slice (some ⟨b, 0, none⟩) ts.length cap) := fun W hK => by
              rw [cell_of ((hK.block w.heap.size (World.block_lt_of_cell? W1 _ p0) hxf).trans hW1)]; rfl
            replace hbn1 := Lib.hid hbn1
            clear hb2 hO2 hs2 p1 z1 p7 hW1 kb q0
            go_loopg [6] fs0.length (fun gk v6 W => ∃ k : Nat, k + gk = fs0.length ∧ v6 = .int .i64 k ∧ Ax (FI W1 B b2 (cf * 2) ty2 fs0 fp2 k W))
            case atStart => exact ⟨0, by omega, rfl, ⟨hF0.out⟩⟩
            case round =>
              clear hF0
              obtain ⟨x, hxg, rfl, HF⟩ := hrel
              by_cases hx : x < fs0.length
              · obtain ⟨g2, rfl⟩ : ∃ j, gk = j + 1 := ⟨gk - 1, by omega⟩
                obtain ⟨⟨nm, fv⟩, hfx⟩ : ∃ t, fs0[x]? = some t := ⟨fs0[x], List.getElem?_eq_getElem hx⟩
                obtain ⟨vs3, g3, nb, u, c1, c2, c3, c4, c5, c6, c7⟩ := HF.out.at hnd1 hfx
                obtain ⟨bu, nu, cu, rfl⟩ := ov_slice c4
                have r1 : wr.cell? ⟨b2, x * 2 + 1, none⟩ = some (.slice bu nu cu) := by rw [cell_of c1]; exact c3
                have CR := Lib.hid (ih fv (.slice bu nu cu) wr B g3 (d - 1) (hsf.out x nm fv hfx) c4 c5 (by omega) (by omega))
                have hx2 : x * 2 < vs3.size := (Array.getElem?_eq_some_iff.1 c2).1
                replace c7 := Lib.hid c7
                replace c2 := Lib.hid c2
                clear c1 c3 c4 c5 HF
                have hdw : IntKind.i64.wrap (d - 1) = d - 1 := by rw [IntKind.wrap_i64]; omega
                go_wp2_with fail
                refine CR.out.mono ?_
                rintro e w3 hP
                obtain ⟨hb3, hnext⟩ := c7.out e w3 hP
                obtain rfl := hP.1
                have s1 : w3.cell? ⟨b2, x * 2, none⟩ = some (.string nb) := by rw [cell_of hb3]; exact c2.out
                have s2 := frozen_of_row w3 b2 (x * 2) _ _ hb3
                have hnx := Lib.hid (hnext ⟨#[115, 112, 111, 105, 108, 116]⟩)
                clear CR hP hnext hb3
                go_wp2_with fail
                go_roundg g2
                case measure => omega
                case rel => exact ⟨x + 1, by omega, by go_num, ⟨hnx.out⟩⟩
              · obtain rfl : gk = 0 := by omega
                obtain rfl : x = fs0.length := by omega
                have hz : ¬ ((fs0.length : Int) < (fs0.length : Int)) := by omega
                obtain ⟨vs3, fs3, m1, m2, m3, m4, m5⟩ := HF.out.ex
                have hnx := Lib.hid (e8.out wr fs3 HF.out.kp (.row hB2 m1 m4.symm hc2 m2 hp2 m3)).2
                clear HF m1 m2 m3 m4 m5
                go_wp2_with fail
                go_roundg g1
                case measure => omega
                case rel => exact ⟨i + 1, by omega, by go_num, ⟨hnx.out⟩⟩
        · obtain rfl : gk = 0 := by omega
          obtain rfl : i = ts.length := by omega
          have hz : ¬ ((ts.length : Int) < (ts.length : Int)) := by omega
          have hf := Lib.hid (hfin.out wr HM.out)
          clear HM kb
          go_wp2_with fail
          go_end0
          exact hf.out
theorem spoil_any (n : Nat) : n ≤ 1073741824 → ∀ (ts : List Tm) (v : Value) (w : World) (B : Nat) (fp : List Nat) (d : Int), szV ts ≤ n → OV w B v ts fp → fp.Nodup → 0 ≤ d → d ≤ 20 → Calls Tryz.prog 35 #[.agg #[v], .int .i64 d] w (SpPost fp B v w) := by
  induction n using Nat.strongRecOn with
  | _ n ihn =>
    intro hn ts v w B fp d hs hO hnd h0 h20
    exact spoil_step n hn (fun ts' v' w' B' fp' d' hs' => ihn (szV ts') hs' (by omega) ts' v' w' B' fp' d' (Nat.le_refl _)) ts v w B fp d hs hO hnd h0 h20
end Go.Proofs.YtffojfcinkihnaaGreatDoor.Lat.Sp
/- A thing's own copy, with the blocks that it owns. -/
namespace Go.Proofs.YtffojfcinkihnaaGreatDoor.Th
open Go.RowKit Go.Lib Go.Proofs.YtffojfcinkihnaaGreatDoor.Abs Go.Proofs.YtffojfcinkihnaaGreatDoor.Lat Go.Proofs.YtffojfcinkihnaaGreatDoor.Lat.Cp Go.Proofs.YtffojfcinkihnaaGreatDoor.Gr
set_option linter.unusedVariables false
def own1 (v : Value) : List Nat := match v.ownBlock with | some g => [g] | none => []
/-- A thing whose parts lie in blocks of its own. -/
structure ThE (w : World) (B : Nat) (s : ByteArray) (v d : Value) (t : Th) (fp : List Nat) : Prop where
  n : s.data.toList = t.n
  ex : ∃ f1, fp = f1 ++ own1 d ∧ OV w B v t.v f1 ∧ w.ownsRow B 9 1 d t.d.length (t.d.map encStr)
  nd : fp.Nodup
theorem own1_bd {w : World} {B : Nat} {d : Value} {n : Nat} {xs : List Value} (h : w.ownsRow B 9 1 d n xs) : ∀ b ∈ own1 d, B ≤ b ∧ b < w.heap.size := fun b hb => by
  obtain ⟨_, ⟨rfl, _⟩ | ⟨g, cap, cur, rfl, h3, h4, _⟩⟩ := h
  · cases hb
  · obtain rfl : b = g := by simpa [own1, Value.ownBlock] using hb
    exact ⟨h3, blk_lt' h4⟩
theorem ThE.bd {w : World} {B : Nat} {s : ByteArray} {v d : Value} {t : Th} {fp : List Nat} (h : ThE w B s v d t fp) : ∀ b ∈ fp, B ≤ b ∧ b < w.heap.size := fun b hb => by
  obtain ⟨f1, rfl, h1, h2⟩ := h.ex
  rcases List.mem_append.1 hb with hb | hb
  · exact h1.bd b hb
  · exact own1_bd h2 b hb
theorem ThE.frame {w w' : World} {B : Nat} {s : ByteArray} {v d : Value} {t : Th} {fp : List Nat} (h : ThE w B s v d t fp) (hf : ∀ b ∈ fp, w'.heap[b]? = w.heap[b]?) : ThE w' B s v d t fp := by
  obtain ⟨f1, rfl, h1, h2⟩ := h.ex
  refine ⟨h.n, ⟨f1, rfl, h1.frame fun b hb => hf b (by simp [hb]), ?_⟩, h.nd⟩
  obtain ⟨e1, e2 | ⟨g, cap, cur, rfl, h3, h4, h5⟩⟩ := h2
  · exact ⟨e1, .inl e2⟩
  · exact ⟨e1, .inr ⟨g, cap, cur, rfl, h3, (hf g (by simp [own1, Value.ownBlock])).trans h4, h5⟩⟩
theorem ThE.base {w : World} {B B' : Nat} {s : ByteArray} {v d : Value} {t : Th} {fp : List Nat} (h : ThE w B s v d t fp) (hB : B' ≤ B) : ThE w B' s v d t fp := by
  obtain ⟨f1, rfl, h1, h2⟩ := h.ex
  exact ⟨h.n, ⟨f1, rfl, h1.base hB, row_base h2 hB⟩, h.nd⟩
/-- A copy of a thing: what is handed back. -/
def OwnQ (w : World) (t : Th) (e : Ending) (w' : World) : Prop := ∃ (s : ByteArray) (b1 b2 : Option Addr) (n1 c1 n2 c2 : Nat) (fp : List Nat), e = .returned (.agg #[.string s, .slice b1 n1 c1, .slice b2 n2 c2]) ∧ Below w.heap.size w w' ∧ ThE w' w.heap.size s (.slice b1 n1 c1) (.slice b2 n2 c2) t fp
theorem own2_any (w : World) (c : Cls) (t : Th) (s : ByteArray) (b1 b2 : Option Addr) (n1 c1 n2 c2 : Nat) (hs : s.data.toList = t.n) (h1 : Rep w c (.slice b1 n1 c1) (.sl 8 (encV t.v))) (h2 : Rep w c (.slice b2 n2 c2) (.sl 1 (encD t.d)))
    (hv : szV t.v ≤ 1073741824) (hd : t.d.length ≤ 1073741824) : Calls Tryz.prog 31 #[.agg #[.string s, .slice b1 n1 c1, .slice b2 n2 c2]] w (OwnQ w t) := by
  have CC := Lib.hid fun W (hB : Below w.heap.size w W) => copy_any 1073741824 (by decide) t.v (.slice b1 n1 c1) W _ hv (h1.ext (Cp.ext_cut c hB))
  have CD := Lib.hid fun W (hB : Below w.heap.size w W) => cloneD (h2.ext (Cp.ext_cut c hB)) hd
  clear h1 h2
  go_enter Tryz.func31, Tryz.ntmps31
  go_wp2_with fail
  have hA : Below w.heap.size w ((w.alloc (.cells #[.string s, .slice b1 n1 c1, .slice b2 n2 c2] 28)).alloc (.cells #[.string ⟨#[]⟩, .slice none 0 0, .slice none 0 0] 28)) := ((Below.refl _ w).alloc (Nat.le_refl _) _).alloc (by simp) _
  have hAs : ((w.alloc (.cells #[.string s, .slice b1 n1 c1, .slice b2 n2 c2] 28)).alloc (.cells #[.string ⟨#[]⟩, .slice none 0 0, .slice none 0 0] 28)).heap.size = w.heap.size + 2 := by simp
  have hA0 : ((w.alloc (.cells #[.string s, .slice b1 n1 c1, .slice b2 n2 c2] 28)).alloc (.cells #[.string ⟨#[]⟩, .slice none 0 0, .slice none 0 0] 28)).heap[w.heap.size]? = some (.cells #[.string s, .slice b1 n1 c1, .slice b2 n2 c2] 28 (0, 0)) := by
    rw [heap_alloc_old]
    · exact heap_alloc_new w _
    · simp
  have hA1 : ((w.alloc (.cells #[.string s, .slice b1 n1 c1, .slice b2 n2 c2] 28)).alloc (.cells #[.string ⟨#[]⟩, .slice none 0 0, .slice none 0 0] 28)).heap[w.heap.size + 1]? = some (.cells #[.string ⟨#[]⟩, .slice none 0 0, .slice none 0 0] 28 (0, 0)) := by
    have := heap_alloc_new (w.alloc (Obj.cells #[.string s, .slice b1 n1 c1, .slice b2 n2 c2] 28)) (.cells #[.string ⟨#[]⟩, .slice none 0 0, .slice none 0 0] 28)
    simpa using this
  generalize ((w.alloc (.cells #[.string s, .slice b1 n1 c1, .slice b2 n2 c2] 28)).alloc (.cells #[.string ⟨#[]⟩, .slice none 0 0, .slice none 0 0] 28)) = wA at *
  have K : ∀ W : World, Below wA.heap.size wA W → W.cell? ⟨w.heap.size, 0, none⟩ = some (.string s) ∧ W.cell? ⟨w.heap.size, 1, none⟩ = some (.slice b1 n1 c1) ∧ W.cell? ⟨w.heap.size, 2, none⟩ = some (.slice b2 n2 c2) := fun W hB => by
    have e0 := (hB.block _ (by omega)).trans hA0
    exact ⟨by rw [cell_of e0]; rfl, by rw [cell_of e0]; rfl, by rw [cell_of e0]; rfl⟩
  obtain ⟨q0, q1, q2⟩ := K wA (Below.refl _ _)
  have K := Lib.hid K
  have K1 := Lib.hid fun (W : World) (hB : Below wA.heap.size wA W) => (hB.block (w.heap.size + 1) (by omega)).trans hA1
  have K2 := Lib.hid (show ∀ W : World, Below wA.heap.size wA W → W.cell? ⟨w.heap.size + 1, 0, none⟩ = some (.string ⟨#[]⟩) ∧ W.cell? ⟨w.heap.size + 1, 1, none⟩ = some (.slice none 0 0) ∧ W.cell? ⟨w.heap.size + 1, 2, none⟩ = some (.slice none 0 0) ∧
      W.frozen? ⟨w.heap.size + 1, 0, none⟩ = false ∧ W.frozen? ⟨w.heap.size + 1, 1, none⟩ = false ∧ W.frozen? ⟨w.heap.size + 1, 2, none⟩ = false from fun W hB => by
    have e0 := K1.out W hB
    exact ⟨by rw [cell_of e0]; rfl, by rw [cell_of e0]; rfl, by rw [cell_of e0]; rfl, frozen_of_row W _ 0 _ _ e0, frozen_of_row W _ 1 _ _ e0, frozen_of_row W _ 2 _ _ e0⟩)
  have hA := Lib.hid hA
  have hAs := Lib.hid hAs
  have bd := Lib.hid (show Below wA.heap.size wA wA.drew from (Below.refl _ wA).drew)
  clear hA0 hA1
  go_region_held3 (fun W => W.cell? ⟨w.heap.size, 0, none⟩ = some (.string s) ∧ W.cell? ⟨w.heap.size, 1, none⟩ = some (.slice b1 n1 c1) ∧ W.cell? ⟨w.heap.size, 2, none⟩ = some (.slice b2 n2 c2)) (go_keep)
    (first
      | (go_at_call 60; refine (CC.out _ (below_up hA.out bd.out)).mono ?_; rintro e w1 ⟨v1, fp, rfl, hB1, hO, hnd⟩; obtain ⟨bo, no, co, rfl⟩ := ov_slice hO; obtain ⟨p0, p1, p2⟩ := K.out w1 (below_up bd.out hB1))
      | (go_at_call 61; refine (CD.out _ (below_up hA.out (below_up bd.out hB1))).mono ?_; rintro e w2 ⟨bo2, no2, co2, rfl, hx⟩; obtain ⟨r0, r1, r2⟩ := K.out w2 (below_up (below_up bd.out hB1) hx.out.2); obtain ⟨g0, g1, g2, z0, z1, z2⟩ := K2.out w2 (below_up (below_up bd.out hB1) hx.out.2)))
  have hB2 : Below w1.heap.size w1 w2 := hx.out.2
  have hBw : Below wA.heap.size wA w2 := below_up (below_up bd.out hB1) hB2
  have m1 := heap_setCell_same w2 (w.heap.size + 1) 0 _ _ (.string s) (K1.out w2 hBw)
  have m2 := heap_setCell_same _ (w.heap.size + 1) 1 _ _ (.slice bo no co) m1
  have m3 := Lib.hid (heap_setCell_same _ (w.heap.size + 1) 2 _ _ (.slice bo2 no2 co2) m2)
  have hZ := Lib.hid (below_put (below_put (below_put (below_up hA.out hBw) (show w.heap.size ≤ w.heap.size + 1 by omega) (i := 0) (.string s)) (show w.heap.size ≤ w.heap.size + 1 by omega) (i := 1) (.slice bo no co)) (show w.heap.size ≤ w.heap.size + 1 by omega) (i := 2) (.slice bo2 no2 co2))
  have hE : ∀ b, b ≠ w.heap.size + 1 → (((w2.setCell ⟨w.heap.size + 1, 0, none⟩ (.string s)).setCell ⟨w.heap.size + 1, 1, none⟩ (.slice bo no co)).setCell ⟨w.heap.size + 1, 2, none⟩ (.slice bo2 no2 co2)).heap[b]? = w2.heap[b]? := fun b hb => by
    rw [Below.heap_setCell _ _ _ b hb, Below.heap_setCell _ _ _ b hb, Below.heap_setCell _ _ _ b hb]
  have hE := Lib.hid hE
  have hSz : w2.heap.size ≤ (((w2.setCell ⟨w.heap.size + 1, 0, none⟩ (.string s)).setCell ⟨w.heap.size + 1, 1, none⟩ (.slice bo no co)).setCell ⟨w.heap.size + 1, 2, none⟩ (.slice bo2 no2 co2)).heap.size := by
    simp
  have hSz := Lib.hid hSz
  clear m1 m2 g0 g1 g2 z0 z1 z2 r0 r1 r2 p0 p1 p2 q0 q1 q2
  generalize (((w2.setCell ⟨w.heap.size + 1, 0, none⟩ (.string s)).setCell ⟨w.heap.size + 1, 1, none⟩ (.slice bo no co)).setCell ⟨w.heap.size + 1, 2, none⟩ (.slice bo2 no2 co2)) = wZ at *
  go_wp2_with fail
  refine bodyPost_ret (results_cell_row (g := w.heap.size + 1) (cs := #[.string s, .slice bo no co, .slice bo2 no2 co2]) (fr := (0, 0)) rfl _ _ _ _ rfl m3.out Tryz.underlying28 rfl (by kernel_rfl)) rfl ?_
  have hs1 : wA.heap.size ≤ w1.heap.size := hB1.size
  have hAs := hAs.out
  have hN : w.heap.size + 1 < wA.heap.size := by omega
  have hO1 : OV w2 w.heap.size (.slice bo no co) t.v fp := (hO.frame fun q hq => hB2.block q (hO.bd q hq).2).base (by show w.heap.size ≤ wA.heap.size; omega)
  refine ⟨s, bo, bo2, no, co, no2, co2, fp ++ own1 (.slice bo2 no2 co2), rfl, hZ.out, ThE.frame (w := w2) ⟨hs, ⟨fp, rfl, hO1, row_base hx.out.1 (by omega)⟩, ?_⟩ fun q hq => hE.out q ?_⟩
  · rw [List.nodup_append]
    refine ⟨hnd, ?_, fun a ha b hb e => ?_⟩
    · unfold own1; cases (Value.slice bo2 no2 co2).ownBlock <;> simp
    · have h1 := (hO.bd a ha).2
      have h2 := (own1_bd hx.out.1 b hb).1
      omega
  · rcases List.mem_append.1 hq with hq | hq
    · have h1 : wA.heap.size ≤ q := (hO.bd q hq).1
      omega
    · have h2 := (own1_bd hx.out.1 q hq).1
      omega
end Go.Proofs.YtffojfcinkihnaaGreatDoor.Th
